import Derived.Test.YtleeccmcgophfaaGreatPF
import Derived.Test.YtleeccmcgophfaaGreatPC
import Derived.Test.YtleeccmcgophfaaGreatPD
import Derived.Test.YtleeccmcgophfaaGreatPE
set_option linter.all false
namespace Go.Tx
open Go Go.Ab
theorem okBs_ext {CS:Calls'}:∀ {bs:List (B×Ty)} {env:List Val} {Q:List Val→Prop},okBs CS bs env Q→okBs CS bs env (fun e=>(∃ l,e=env++l∧l.map (·.1)=bs.map (·.2))∧Q e)
 | [],env,Q,h=>⟨⟨[],by simp,rfl⟩,h⟩
 | b::bs,env,Q,h=>by
  obtain ⟨v,h0,h1,h2⟩:=h
  refine ⟨v,h0,h1,okBs_mono ?_ (okBs_ext h2)⟩
  rintro e ⟨⟨l,e1,e2⟩,hq⟩
  exact ⟨⟨v::l,by simp [e1],by simp [h0,e2]⟩,hq⟩
def getOpt (g:Operand→Option SV):Option Operand→Option (Option SV)
 | none=>some none
 | some o=>(g o).map some
def partsS (g:Operand→Option SV):List (Nat×Operand)→Option (List (Nat×SV))
 | []=>some []
 | (i,o)::l=>match g o,partsS g l with
  | some x,some xs=>some ((i,x)::xs)
  | _,_=>none
def passS:SV→Option SV
 | .ptr n o=>some (.ptr n o)
 | .ref t x o=>some (.ref t x o)
 | .aptr n o m t i inn=>some (.aptr n o m t i inn)
 | _=>none
def fnc? : SV→Option Nat
 | .e (.cst (.fnc g)) _=>some g
 | _=>none
abbrev Bs:=List (B×Ty)
def pure1 (x:Option SV):Option (Bs×SV):=x.map fun z=>([],z)
def lookA (P:Program) (bx:List (Name×SV)) (t:TypeId) (ok:Bool) (m i:SV):Option SV :=
 match m with
 | .mref n=>match lookN n bx with
  | some (.mpc k u x)=>match tmapk P t,tmape P t,asI i with
   | some kd,some et,some (q,a)=>if isZeroV u (tzero P et)=true then lookS k kd u x q a ok else none
   | _,_,_=>none
  | _=>none
 | _=>none
def callV' (P:Program) (tb:Tab) (nv:Nat) (g:Operand→Option SV) (c:Call):Option (Bs×SV) :=
 match c.callee with
 | .builtin .len=>match c.args.toList,c.argTypes.toList with
  | [x],t::_=>match g x with
   | some a=>pure1 (lenS P t a)
   | none=>none
  | _,_=>none
 | .builtin .max=>match c.args.toList with
  | [x,z]=>match g x,g z with
   | some a,some b=>pure1 (mmS true a b)
   | _,_=>none
  | _=>none
 | .builtin .min=>match c.args.toList with
  | [x,z]=>match g x,g z with
   | some a,some b=>pure1 (mmS false a b)
   | _,_=>none
  | _=>none
 | .value f=>match g f with
  | some z=>match fnc? z with
   | some gid=>if callable P gid=true then (match getAll g c.args.toList with
    | some zs=>callS tb nv gid zs
    | none=>none) else none
   | none=>none
  | none=>none
 | _=>none
def valOp (P:Program) (tb:Tab) (y:Sy) (g:Operand→Option SV) (op:Op):Option (Bs×SV) :=
 match op with
 | .move x=>pure1 (g x)
 | .pick c a b=>match g c,g a,g b with
  | some c,some a,some b=>pure1 (pickS c a b)
  | _,_,_=>none
 | .load t a=>match tagg P t,g a with
  | some ag,some v=>if ag=true∨tsz P t≠0 then loadA y.g.length y.bx ag (tyD P t) (tsz P t) v else none
  | _,_=>none
 | .fieldAddr t x i=>match tfield P t i,g x with
  | some (off,ft),some v=>if tsz P ft≠0 then pure1 (addF off v) else none
  | _,_=>none
 | .field t x i=>match tfield P t i,g x with
  | some (off,ft),some v=>match tagg P ft with
   | some ag=>if (ag=true∨tsz P ft≠0)∧strOK v=true then pure1 (loadC ag (tyD P ft) off (tsz P ft) v) else none
   | none=>none
  | _,_=>none
 | .indexAddr t x ix=>match g x,g ix with
  | some a,some i=>match telem P t with
   | some e=>idxS y.g.length (tyD P t) (tsz P e) a i
   | none=>match tarr P t with
    | some (m,e)=>if 2≤m∧tsz P e≠0 then aidxS y.g.length m (tsz P e) a i (tyD P e) else none
    | none=>none
  | _,_=>none
 | .index t x ix=>match g x,g ix with
  | some a,some i=>match tarr P t with
   | some (m,e)=>match tagg P e with
    | some ag=>indexV y.g.length m ag (tsz P e) a i
    | none=>none
   | none=>match P.underlying t with
    | some .string=>strV y.g.length a i
    | _=>none
  | _,_=>none
 | .slice t x lo hi none=>match telem P t,g x,getOpt g lo,getOpt g hi with
  | some e,some a,some l,some h=>slcS y.g.length (tyD P t) (tsz P e) a l h
  | _,_,_,_=>none
 | .binOp op t x z _=>match g x,g z with
  | some a,some .nil=>if (telem P t).isSome=true then nilS op a else none
  | some a,some b=>match asD' (tyD P t) a,asD' (tyD P t) b with
   | some (tx,ex),some (tz,ez)=>binE P op t y.g.length tx ex tz ez
   | _,_=>none
  | _,_=>none
 | .unOp op _ x=>match g x with
  | some a=>pure1 (unS op a)
  | none=>none
 | .convert src t x=>match g x,P.underlying t with
  | some a,some (.int kd)=>if (P.underlying src).isSome=true then pure1 (convS kd a) else none
  | _,_=>none
 | .build t parts=>if tbuild P t=true then (match partsS g parts.toList with
  | some ps=>match buildS P t ps with
   | some z=>some ([],z)
   | none=>pure1 (buildG P t ps)
  | none=>none) else none
 | .buildSlice t len parts=>match getAll g (parts.toList.map (·.2)) with
  | some zs=>listS P y.g.length t len (parts.toList.map (·.1)) zs
  | none=>none
 | .makeFunc (.func f) first cap=>if f<fnB then (if first = #[] then (getAll g cap.toList).map fun zs=>([],.fn f zs) else if cap = #[] then (getAll g first.toList).map fun zs=>([],.fn (f+fnB) zs) else none) else none
 | .extract x i=>match g x with
  | some (.tup vs)=>pure1 (vs[i]?)
  | _=>none
 | .nilCheck x=>match g x with
  | some a=>pure1 (passS a)
  | none=>none
 | .lookup t x ix ok=>match g x,g ix with
  | some m,some i=>pure1 (lookA P y.bx t ok m i)
  | _,_=>none
 | .call c=>callV' P tb y.g.length g c
 | _=>none
theorem pure1_ok {x:Option SV} {bs:Bs} {z:SV} (h:pure1 x=some (bs,z)):x=some z∧bs=[]:=by
 obtain ⟨z',h1,h2⟩:=Option.map_eq_some_iff.1 h
 cases h2;exact ⟨h1,rfl⟩
section
variable {P:Program} {S:Sems} {env:List Val} {y:Sy} {s:Sa} {p:Name} {o:Oper} {k:Sa→Prop} {tb:Tab}
theorem partsS_ok {g:Operand→Option SV} (hg:∀ o x,g o=some x→InstV env x (s.get o)):∀ {l:List (Nat×Operand)} {ps:List (Nat×SV)},partsS g l=some ps→InstK env ps (l.map fun x=>(x.1,s.get x.2))
 | [],ps,h=>by cases h;simp [InstK]
 | (i,o)::l,ps,h=>by
  simp only [partsS] at h
  split at h
  ·rename_i x xs h1 h2
   cases h
   simp only [List.map_cons,InstK]
   exact ⟨_,_,rfl,hg _ _ h1,partsS_ok hg h2⟩
  ·cases h
theorem getOpt_ok {g:Operand→Option SV} (hg:∀ o x,g o=some x→InstV env x (s.get o)) {l:Option Operand} {c:Option SV} (h:getOpt g l=some c):optOK env s l c:=by
 cases l with
 | none=>cases h;trivial
 | some l =>
  obtain ⟨x,h1,rfl⟩:=Option.map_eq_some_iff.1 h
  exact hg _ _ h1
theorem fnc_ok {z:SV} {v:V} {g:Nat} (h:fnc? z=some g) (hv:InstV env z v):v = .d (.v (.func (.func g) #[] #[])):=by
 unfold fnc? at h
 split at h
 ·cases h;simp only [InstV] at hv;obtain ⟨a,_,rfl⟩:=hv;rfl
 ·cases h
theorem valOp_ok (hS:PureS P S) {g:Operand→Option SV} (hg:∀ o x,g o=some x→InstV env x (s.get o)) (hI:Inst env y s) (hw:EnvWf env) (hd:∀ d,o.dst=some d→d<s.n) {bs:Bs} {z:SV} (h:valOp P tb y g o.op=some (bs,z))
  (hb:okBs (CallV P) bs env (Nx o s k z)):evOp P S p o s k:=by
 cases hop:o.op <;> simp only [valOp,hop,reduceCtorEq] at h
 case move x =>
  obtain ⟨h1,rfl⟩:=pure1_ok h
  simp only [evOp,hop]
  exact hb _ (hg _ _ h1)
 case pick c a b =>
  split at h
  ·rename_i c' a' b' h1 h2 h3
   obtain ⟨h4,rfl⟩:=pure1_ok h
   obtain ⟨r,e1,e2,e3⟩:=pickS_ok h4 (hg _ _ h1) (hg _ _ h2) (hg _ _ h3)
   simp only [evOp,hop,e1]
   exact ⟨fun e=>hb _ (e2 e),fun e=>hb _ (e3 e)⟩
  ·cases h
 case load t a =>
  split at h
  ·rename_i ag v h1 h2
   split at h
   ·rename_i hc
    exact loadA_ok hop h1 (fun e=>by rcases hc with hc | hc <;> first | exact hc | (rw [e] at hc;cases hc)) h hI (hg _ _ h2) hb
   ·cases h
  ·cases h
 case fieldAddr t x i =>
  split at h
  ·rename_i off ft v h1 h2
   split at h
   ·rename_i hc
    obtain ⟨h3,rfl⟩:=pure1_ok h
    exact addF_ok hop h1 hc h3 (hg _ _ h2) hb
   ·cases h
  ·cases h
 case field t x i =>
  split at h
  ·rename_i off ft v h1 h2
   split at h
   ·rename_i ag hag
    split at h
    ·rename_i hc
     obtain ⟨h3,rfl⟩:=pure1_ok h
     exact field_ok hop h1 hag (fun e=>by rcases hc.1 with hc | hc <;> first | exact hc | (rw [e] at hc;cases hc)) hc.2 h3 (hg _ _ h2) hb
    ·cases h
   ·cases h
  ·cases h
 case indexAddr t x ix =>
  split at h
  ·rename_i a i h1 h2
   split at h
   ·rename_i e he
    exact idxS_ok hop he h hI (hg _ _ h1) (hg _ _ h2) hb
   ·rename_i he
    split at h
    ·rename_i m e ht
     split at h
     ·rename_i hc
      exact aidxS_ok hop he ht hc.1 hc.2 h hI (hg _ _ h1) (hg _ _ h2) hb
     ·cases h
    ·cases h
  ·cases h
 case index t x ix =>
  split at h
  ·rename_i a i h1 h2
   split at h
   ·rename_i m e ht
    split at h
    ·rename_i ag hag
     exact indexV_ok hop ht hag h hI (hg _ _ h1) (hg _ _ h2) hb
    ·cases h
   ·rename_i ht
    split at h
    ·rename_i hu
     exact strV_ok hop ht hu h hI (hg _ _ h1) (hg _ _ h2) hb
    ·cases h
  ·cases h
 case slice t x lo hi mx =>
  cases mx with
  | some m=>cases h
  | none =>
   simp only at h
   split at h
   ·rename_i e a l hh h1 h2 h3 h4
    exact slcS_ok hop h1 h hI (hg _ _ h2) (getOpt_ok hg h3) (getOpt_ok hg h4) hb
   ·cases h
 case binOp op t x z' yt =>
  split at h
  ·rename_i a h1 h2
   split at h
   ·rename_i hc
    obtain ⟨e,he⟩:=Option.isSome_iff_exists.1 hc
    have:=hg _ _ h2
    simp only [InstV] at this
    exact nilS_ok hop he this h (hg _ _ h1) hb
   ·cases h
  ·rename_i a b _ h1 h2
   split at h
   ·rename_i tx ex tz ez h3 h4
    obtain ⟨a1,e1,e2⟩:=asD'_ok h3 (hg _ _ h1)
    obtain ⟨b1,e3,e4⟩:=asD'_ok h4 (hg _ _ h2)
    exact binE_ok h hI.len e1 e3 ⟨x,z',yt,hop,e2,e4⟩ hb
   ·cases h
  ·cases h
 case unOp op t x =>
  split at h
  ·rename_i a h1
   obtain ⟨h3,rfl⟩:=pure1_ok h
   exact unS_ok hop h3 (hg _ _ h1) hb
  ·cases h
 case convert src t x =>
  split at h
  ·rename_i a kd h1 h2
   split at h
   ·rename_i hc
    obtain ⟨h3,rfl⟩:=pure1_ok h
    exact convS_ok hop h2 hc hw h3 (hg _ _ h1) hb
   ·cases h
  ·cases h
 case build t parts =>
  split at h
  ·rename_i ht
   split at h
   ·rename_i ps hps
    split at h
    ·rename_i z' hz
     cases h
     exact buildS_ok hop ht hz (partsS_ok hg hps) hb
    ·obtain ⟨h3,rfl⟩:=pure1_ok h
     exact buildG_ok hop ht h3 (partsS_ok hg hps) hb
   ·cases h
  ·cases h
 case buildSlice t len parts =>
  split at h
  ·rename_i zs hzs
   refine listS_ok hop h hI ?_ hb
   have:=getAll_ok hg hzs
   rw [List.map_map] at this
   exact this
  ·cases h
 case makeFunc f first cap =>
  cases f with
  | func f =>
   simp only at h
   split at h
   ·rename_i hlt
    split at h
    ·rename_i hf
     subst hf
     obtain ⟨zs,h1,h2⟩:=Option.map_eq_some_iff.1 h
     cases h2
     exact makeFunc_ok hop hlt (getAll_ok hg h1) hb
    ·rename_i hf
     split at h
     ·rename_i hc
      subst hc
      obtain ⟨zs,h1,h2⟩:=Option.map_eq_some_iff.1 h
      cases h2
      exact makeFunc_ok2 hop hlt hf (getAll_ok hg h1) hb
     ·cases h
   ·cases h
  | _=>cases h
 case extract x i =>
  split at h
  ·rename_i vs h1
   obtain ⟨h3,rfl⟩:=pure1_ok h
   exact extract_ok hop h3 (hg _ _ h1) hb
  ·cases h
 case nilCheck x =>
  split at h
  ·rename_i a h1
   obtain ⟨h3,rfl⟩:=pure1_ok h
   have:=hg _ _ h1
   simp only [evOp,hop]
   unfold passS at h3
   split at h3
   ·cases h3;have h2:=this;simp only [InstV] at this;simp only [this];exact hb _ (by simp only [InstV])
   ·cases h3;have h2:=this;simp only [InstV] at this;obtain ⟨a,cs,e1,e2,e3⟩:=this;rw [e2];exact hb _ (by rw [← e2];exact h2)
   ·cases h3;have h2:=this;simp only [InstV] at this;obtain ⟨kk,j,e1,e2,e3,e4⟩:=this;rw [e4];exact hb _ (by rw [← e4];exact h2)
   ·cases h3
  ·cases h
 case lookup t x ix ok =>
  split at h
  ·rename_i m i h1 h2
   obtain ⟨h3,rfl⟩:=pure1_ok h
   unfold lookA at h3
   split at h3
   ·rename_i n
    split at h3
    ·rename_i k' u xx hl
     split at h3
     ·rename_i kd et q a h4 h5 h6
      split at h3
      ·rename_i hz
       have hm:=hg _ _ h1
       simp only [InstV] at hm
       obtain ⟨c,e1,e2⟩:=(hI.bx.look (n:=n)).1 hl
       obtain ⟨ii,e3,e4⟩:=asI_ok h6 (hg _ _ h2)
       exact lookS_ok hop h4 h5 hz hm e1 e2 (by simp only [InstV];exact ⟨ii,e3,e4⟩) h3 hb
      ·cases h3
     ·cases h3
    ·cases h3
   ·cases h3
  ·cases h
 case call c =>
  unfold callV' at h
  split at h
  ·rename_i hcal
   split at h
   ·rename_i x t ts hx ht
    split at h
    ·rename_i a h1
     obtain ⟨h3,rfl⟩:=pure1_ok h
     exact lenS_ok hop hcal hx ht h3 (hg _ _ h1) hb
    ·cases h
   ·cases h
  ·rename_i hcal
   split at h
   ·rename_i x z' hx
    split at h
    ·rename_i a b h1 h2
     obtain ⟨h3,rfl⟩:=pure1_ok h
     exact mmS_ok (gt:=true) hop hcal hx h3 (hg _ _ h1) (hg _ _ h2) hb
    ·cases h
   ·cases h
  ·rename_i hcal
   split at h
   ·rename_i x z' hx
    split at h
    ·rename_i a b h1 h2
     obtain ⟨h3,rfl⟩:=pure1_ok h
     exact mmS_ok (gt:=false) hop hcal hx h3 (hg _ _ h1) (hg _ _ h2) hb
    ·cases h
   ·cases h
  ·rename_i f hcal
   split at h
   ·rename_i zf hzf
    split at h
    ·rename_i gid hgid
     split at h
     ·rename_i hcb
      split at h
      ·rename_i zs hzs
       exact callS_ok hS hop hcal (fnc_ok hgid (hg _ _ hzf)) hcb h hI (getAll_ok hg hzs) hd hb
      ·cases h
     ·cases h
    ·cases h
   ·cases h
  ·cases h
end
end Go.Tx
namespace Go.Tx
open Go Go.Ab
def etD (P:Program) (t:TypeId):Option Ty:=match telem P t with | some e=>tyD P e | none=>none
def coeS (w:Option Ty):SV→SV
 | .kd cs=>match asE w (.kd cs) with | some (t,x)=>.e t x | none=>.kd cs
 | x=>x
theorem coeS_ok {env:List Val} {w:Option Ty} {z:SV} {v:V} (h:InstV env z v):InstV env (coeS w z) v:=by
 cases z <;> try exact h
 case kd cs =>
  simp only [coeS]
  split
  ·rename_i t x he
   obtain ⟨a,h1,h2⟩:=asE_ok he h
   simp only [InstV] at h;subst h
   simp only [V.toD,V.toD1,Option.some.injEq] at h2
   simp only [InstV]
   exact ⟨a,h1,by rw [h2]⟩
  ·exact h
def zeroSV (P:Program) (t:TypeId):Option SV:=match tzero P t with
 | .nil=>some .nil
 | _=>(zeroOf P t).map fun w=>.e w (.zero w)
theorem zeroSV_ok {P:Program} {env:List Val} {t:TypeId} {z:SV} (h:zeroSV P t=some z):InstV env z (tzero P t):=by
 unfold zeroSV at h
 split at h
 ·rename_i e;cases h;rw [e];simp only [InstV]
 ·obtain ⟨w,h1,h2⟩:=Option.map_eq_some_iff.1 h
  subst h2
  rw [(zeroOf_ok h1).1]
  simp only [InstV]
  exact ⟨_,rfl,rfl⟩
def isNone' {α:Type}:Option α→Bool
 | none=>true
 | some _=>false
def newS (y:Sy) (d:Nat) (p:Name) (dst:Option Tmp) (sz:Option Nat) (et:Option Ty) (z:SV):Option (Bs×Sy) :=
 match y.claim (1000000::d::p) sz et z with
 | some (z',y')=>if y.refs (d::p)=false∧isNone' (lookN (d::p) y.bx)=true then some ([],({ y' with bx:=(d::p,z')::y'.bx }:Sy).put dst (.ptr (d::p) 0)) else none
 | none=>none
theorem isNone_eq {α:Type} {x:Option α} (h:isNone' x=true):x=none:=by cases x <;> simp_all [isNone']
section
variable {P:Program} {S:Sems} {CS:Calls'} {env:List Val} {y:Sy} {s:Sa} {p:Name} {o:Oper} {k:Sa→Prop} {tb:Tab}
theorem newS_ok {d:Nat} {sz:Option Nat} {et:Option Ty} {z:SV} {v:V} {bs:Bs} {y' : Sy} (h:newS y d p o.dst sz et z=some (bs,y')) (hI:Inst env y s) (hv:InstV env z v) (hb:okBs CS bs env fun e=>∀ s',Inst e y' s' → k s') :
  s.refs (d::p)=false∧lookN (d::p) s.bx=none∧k ({ (s.claim (1000000::d::p) sz v).2 with bx:=(d::p,(s.claim (1000000::d::p) sz v).1)::(s.claim (1000000::d::p) sz v).2.bx }.put o.dst (.ptr (d::p) 0)):=by
 unfold newS at h
 split at h
 ·rename_i z' y1 hc
  split at h
  ·rename_i hh
   cases h
   obtain ⟨h1,h2⟩:=hI.claim hv hc
   refine ⟨hI.refs hh.1,(hI.bx.look (n:=d::p)).2 (isNone_eq hh.2),hb _ ?_⟩
   have h3:Inst env { y1 with bx:=(d::p,z')::y1.bx } { (s.claim (1000000::d::p) sz v).2 with bx:=(d::p,(s.claim (1000000::d::p) sz v).1)::(s.claim (1000000::d::p) sz v).2.bx } :=
    ⟨h2.g,h2.rd,h2.n,h2.ts,h2.sv,⟨_,_,rfl,h1,h2.bx⟩,h2.lp,h2.ow,h2.vc⟩
   exact h3.put o.dst rfl
  ·cases h
 ·cases h
def storeP (P:Program) (y:Sy) (dst:Option Tmp) (t:TypeId) (n:Name) (off:Nat) (v:SV):Option (Bs×Sy) :=
 match lookN n y.bx with
 | some _=>match y.claim ((1000000+off)::n) (esz P t) (etD P t) v with
  | some (v',y')=>match lookN n y'.bx with
   | some c=>match storeC off v' c with
    | some c'=>if sizeS v' = some (tsz P t)∧(sizeS v).isSome=true∧tsz P t≠0 then some ([],({ y' with bx:=setN n c' y'.bx }:Sy).put dst .dead) else none
    | none=>none
   | none=>none
  | none=>none
 | none=>none
theorem storeP_ok {t:TypeId} {a x:Operand} {n:Name} {off:Nat} {v:SV} {bs:Bs} {y' : Sy} (hop:o.op = .store t a x) (ha:s.get a = .ptr n off) (hv:InstV env v (s.get x)) (h:storeP P y o.dst t n off v=some (bs,y')) (hI:Inst env y s)
  (hb:okBs CS bs env fun e=>∀ s',Inst e y' s' → k s'):evOp P S p o s k:=by
 unfold storeP at h
 split at h
 ·rename_i c0 hc0
  split at h
  ·rename_i v' y1 hcl
   split at h
   ·rename_i c hc
    split at h
    ·rename_i c' hc'
     split at h
     ·rename_i hh
      cases h
      obtain ⟨h1,h2⟩:=hI.claim hv hcl
      obtain ⟨b0,e0,_⟩:=(hI.bx.look (n:=n)).1 hc0
      obtain ⟨b,e1,e2⟩:=(h2.bx.look (n:=n)).1 hc
      obtain ⟨r1,r2,r3⟩:=storeC_ok hc' h1 e2
      obtain ⟨nn,hn⟩:=Option.isSome_iff_exists.1 hh.2.1
      simp only [evOp,hop,ha,e0,e1]
      obtain ⟨q1,q2⟩:=sizeS_ok hh.1 h1
      refine ⟨(sizeS_ok hn hv).2,hh.2.2,q1,by omega,hb _ ?_⟩
      have h3:Inst env { y1 with bx:=setN n c' y1.bx } { (s.claim ((1000000+off)::n) (esz P t) (s.get x)).2 with bx:=setN n (storeBox off (s.claim ((1000000+off)::n) (esz P t) (s.get x)).1 b) (s.claim ((1000000+off)::n) (esz P t) (s.get x)).2.bx } :=
       ⟨h2.g,h2.rd,h2.n,h2.ts,h2.sv,h2.bx.setN r1,h2.lp,h2.ow,h2.vc⟩
      exact h3.put o.dst rfl
     ·cases h
    ·cases h
   ·cases h
  ·cases h
 ·cases h
def storeA (P:Program) (y:Sy) (dst:Option Tmp) (t:TypeId) (n:Name) (off m:Nat) (u:Ty) (i:E) (inn:Nat) (v:SV):Option (Bs×Sy) :=
 match v with
 | .e w e=>match lookN n y.bx with
  | some (.e b x)=>match arrE off m u b x with
   | some z =>
    let nv:=y.g.length
    if w.size=tsz P t∧tsz P t≠0∧b.ag=some true∧b.size≠1 then
     (if inn=0∧w=u then
      (if off=0∧b = .arr m u then some ([(.r3 .aset z i e,.arr m u)],({ (y.more [.arr m u]) with bx:=setN n (.e (.arr m u) (.var nv)) y.bx }:Sy).put dst .dead)
       else match ty2 (.upd off) b (.arr m u) with
       | some b'=>some ([(.r3 .aset z i e,.arr m u)],({ (y.more [.arr m u]) with bx:=setN n (.e b' (.p2 (.upd off) x (.var nv))) y.bx }:Sy).put dst .dead)
       | none=>none)
     else match ty2 (.upd inn) u w with
      | some u'=>if u' = u then (match (if off=0∧b = .arr m u then some (b,E.var (nv+1)) else (ty2 (.upd off) b (.arr m u)).map fun b'=>(b',.p2 (.upd off) x (.var (nv+1)))) with
       | some (b',q)=>some ([(.r2 .aidx z i,u),(.r3 .aset z i (.p2 (.upd inn) (.var nv) e),.arr m u)],({ (y.more [u,.arr m u]) with bx:=setN n (.e b' q) y.bx }:Sy).put dst .dead)
       | none=>none) else none
      | none=>none)
    else none
   | none=>none
  | _=>none
 | _=>none
theorem claim_e {i:Name} {sz:Option Nat} {d:D}:s.claim i sz (.d d)=(.d d,s):=rfl
theorem aset_enc {m:Nat} {u b b' w:Ty} {f:Fin m→u.den} {c:b.den} {j:Nat} (hj:j<m) {off inn:Nat} {e:w.den} {x' : u.den} {q:b'.den}
  (h1:enc (.arr m u) f=((enc b c).drop off).take (m * u.size)) (hb:off+m * u.size≤b.size) (hi:inn+w.size≤u.size) (hx:enc u x' = over (enc u (f ⟨j,hj⟩)) (enc w e) inn)
  (hq:enc b' q=over (enc b c) (enc (.arr m u) fun i=>if i=⟨j,hj⟩ then x' else f i) off) :
  enc b' q=over (enc b c) (enc w e) (off+j * u.size+inn):=by
 have hle:j * u.size+u.size≤m * u.size:=by
  have:=Nat.mul_le_mul_right u.size (show j+1≤m from hj)
  rw [Nat.add_mul,Nat.one_mul] at this;exact this
 have hl:(enc (.arr m u) f).length=m * u.size:=enc_len _ _
 rw [hq,arr_upd,hx]
 have hpart:=arr_part f hj (o:=0) (m:=u.size) (by omega)
 simp only [Nat.add_zero,List.drop_zero] at hpart
 rw [over_over (a:=enc (.arr m u) f) (b:=enc u (f ⟨j,hj⟩)) (c:=enc w e) (o:=j * u.size) (p:=inn) (by rw [enc_len,enc_len];exact hi) (by rw [enc_len,enc_len];exact hle) (by rw [enc_len,hpart,List.take_of_length_le (by rw [enc_len];exact Nat.le_refl _)])]
 rw [over_over (a:=enc b c) (b:=enc (.arr m u) f) (c:=enc w e) (o:=off) (p:=j * u.size+inn) (by rw [enc_len,hl];omega) (by rw [hl,enc_len];exact hb) (by rw [hl,h1]),Nat.add_assoc]
theorem storeBox_agg {d:D} {ds:List D} {off:Nat} (h:off+d.cells.length≤ds.length) (ha:off=0∧d.cells.length=ds.length→d = .agg ds∨∃ cs,d = .agg cs):storeBox off (.d d) (.d (.agg ds)) = .d (.agg (over ds d.cells off)):=by
 rw [storeBox_eq]
 split
 ·rename_i hc
  rw [cells_d,List.length_map] at hc
  have hl:d.cells.length=ds.length:=by simpa [V.cells] using hc.2
  have hcs:∃ cs,d = .agg cs:=by
   rcases ha ⟨hc.1,hl⟩ with h | h
   ·exact ⟨ds,h⟩
   ·exact h
  obtain ⟨cs,rfl⟩:=hcs
  rw [hc.1,over_all (by rw [hl])]
  rfl
 ·rfl
theorem encD_not {t:Ty} (h:t.size≠1) (x:t.den):encD t x = .agg (enc t x):=by
 unfold encD wrapD
 split
 ·rename_i ha;exact absurd (size_one ha) h
 ·rfl
theorem storeA_fin {t:TypeId} {a x:Operand} {n:Name} {off:Nat} {w b b' : Ty} {e:w.den} {c:b.den} {q:b'.den} (hop:o.op = .store t a x) (ha:s.get a = .ptr n off) (hx:s.get x = .d (encD w e)) (hn:lookN n s.bx=some (.d (encD b c)))
  (h1:w.size=tsz P t) (h2:tsz P t≠0) (h3:b.ag=some true) (h4:b.size≠1) (h5:b'.ag=some true) (hle:off+w.size≤b.size) (hq:enc b' q=over (enc b c) (enc w e) off)
  (hk:k ({ s with bx:=setN n (.d (encD b' q)) s.bx }.put o.dst .dead)):evOp P S p o s k:=by
 have hb:storeBox off (.d (encD w e)) (.d (encD b c)) = .d (encD b' q):=by
  rw [encD_ag h3,encD_ag h5,storeBox_agg (by rw [encD_cells,enc_len,enc_len];exact hle),encD_cells,hq]
  rintro ⟨_,hl⟩
  rw [encD_cells,enc_len,enc_len] at hl
  exact .inr ⟨_,encD_not (by omega) e⟩
 simp only [evOp,hop,ha,hn,hx,claim_e]
 refine ⟨rfl,h2,by rw [cells_d,List.length_map,encD_cells,enc_len];exact h1,?_,?_⟩
 ·rw [cells_d,List.length_map,encD_cells,enc_len,← h1];exact hle
 ·rw [hb];exact hk
theorem storeA_ok {t:TypeId} {a x:Operand} {n:Name} {off m:Nat} {u:Ty} {i:E} {inn:Nat} {v:SV} {bs:Bs} {y' : Sy} (hop:o.op = .store t a x) (ha:InstV env (.aptr n off m u i inn) (s.get a)) (hv:InstV env v (s.get x)) (h:storeA P y o.dst t n off m u i inn v=some (bs,y')) (hI:Inst env y s)
  (hb:okBs CS bs env fun e=>∀ s',Inst e y' s' → k s'):evOp P S p o s k:=by
 unfold storeA at h
 split at h
 ·rename_i w e
  simp only [InstV] at hv ha
  obtain ⟨ev,hev,hx⟩:=hv
  obtain ⟨kk,j,hi,hj0,hjm,hap⟩:=ha
  split at h
  ·rename_i b xx hbx
   obtain ⟨c',g1,g2⟩:=(hI.bx.look (n:=n)).1 hbx
   simp only [InstV] at g2
   obtain ⟨c,hc,rfl⟩:=g2
   split at h
   ·rename_i z hz
    obtain ⟨f,f1,f2,f3,f4⟩:=arrE_ok hz hc
    simp only at h
    split at h
    ·rename_i hcond
     obtain ⟨c1,c2,c3,c4⟩:=hcond
     have hle:j.toNat * u.size+u.size≤m * u.size:=by
      have:=Nat.mul_le_mul_right u.size (show j.toNat+1≤m from hjm)
      rw [Nat.add_mul,Nat.one_mul] at this;exact this
     split at h
     ·rename_i hw
      obtain ⟨hinn,hwu⟩:=hw
      subst hinn;subst hwu
      split at h
      ·rename_i hwhole
       obtain ⟨hoff,hbarr⟩:=hwhole
       subst hoff;subst hbarr
       cases h
       obtain ⟨g,r1,r2,r3⟩:=ok_last hI.len hb
       obtain ⟨a',b',d',r,cc,x1,x2,x3,x4,x5,x6⟩:=r1
       rw [f1] at x1;cases x1
       rw [hi] at x2;cases x2
       rw [hev] at x3;cases x3
       simp only [rel3,dif_pos,Option.some.injEq] at x4
       subst x4
       simp only at x5
       rw [dif_pos ⟨hj0,hjm⟩] at x5
       cases x5;cases x6
       have hfc:enc (.arr m w) f=enc (.arr m w) c:=by rw [f3,List.drop_zero,List.take_of_length_le (by rw [enc_len];exact Nat.le_refl _)]
       refine storeA_fin (b':=.arr m w) (c:=c) (q:=fun i=>if i=⟨j.toNat,hjm⟩ then ev else f i) hop hap hx g1 c1 c2 c3 c4 rfl (by simp only [Ty.size];omega) ?_ (r2 _ ?_)
       ·refine aset_enc (off:=0) (inn:=0) (c:=c) hjm f3 f2 (by omega) (x':=ev) ?_ ?_
        ·rw [over_all (by rw [enc_len,enc_len])]
        ·rw [over_all (by rw [enc_len,enc_len])]
       ·have h3:=hI.snoc (⟨.arr m w,fun i=>if i=⟨j.toNat,hjm⟩ then ev else f i⟩:Val)
        have h4:Inst (env++[⟨.arr m w,fun i=>if i=⟨j.toNat,hjm⟩ then ev else f i⟩]) { (y.more [.arr m w]) with bx:=setN n (.e (.arr m w) (.var y.g.length)) y.bx } { s with bx:=setN n (.d (encD (.arr m w) fun i=>if i=⟨j.toNat,hjm⟩ then ev else f i)) s.bx } :=
         ⟨h3.g,h3.rd,h3.n,h3.ts,h3.sv,h3.bx.setN (by simp only [InstV];exact ⟨_,r3,rfl⟩),h3.lp,h3.ow,h3.vc⟩
        exact h4.put o.dst rfl
      ·split at h
       ·rename_i b1 hb1
        cases h
        obtain ⟨g,r1,r2,r3⟩:=ok_last hI.len hb
        obtain ⟨a',b',d',r,cc,x1,x2,x3,x4,x5,x6⟩:=r1
        rw [f1] at x1;cases x1
        rw [hi] at x2;cases x2
        rw [hev] at x3;cases x3
        simp only [rel3,dif_pos,Option.some.injEq] at x4
        subst x4
        simp only at x5
        rw [dif_pos ⟨hj0,hjm⟩] at x5
        cases x5;cases x6
        obtain ⟨F,u1,u2⟩:=val2 hb1 (E.val_app _ hc) r3
        obtain ⟨p1,p2,p3,p4⟩:=updF_enc _ _ _ _ _ (show updF b (.arr m w) off=some ⟨b1,F⟩ from u1)
        refine storeA_fin (b':=b1) (c:=c) (q:=F c fun i=>if i=⟨j.toNat,hjm⟩ then ev else f i) hop hap hx g1 c1 c2 c3 c4 (by rw [p3,c3]) (by simp only [Ty.size] at p1;omega) ?_ (r2 _ ?_)
        ·exact aset_enc (off:=off) (inn:=0) (c:=c) hjm f3 f2 (by omega) (x':=ev) (by rw [over_all (by rw [enc_len,enc_len])]) (p4 _ _)
        ·have h3:=hI.snoc (⟨.arr m w,fun i=>if i=⟨j.toNat,hjm⟩ then ev else f i⟩:Val)
         have h4:Inst (env++[⟨.arr m w,fun i=>if i=⟨j.toNat,hjm⟩ then ev else f i⟩]) { (y.more [.arr m w]) with bx:=setN n (.e b1 (.p2 (.upd off) xx (.var y.g.length))) y.bx } { s with bx:=setN n (.d (encD b1 (F c fun i=>if i=⟨j.toNat,hjm⟩ then ev else f i))) s.bx } :=
          ⟨h3.g,h3.rd,h3.n,h3.ts,h3.sv,h3.bx.setN (by simp only [InstV];exact ⟨_,u2,rfl⟩),h3.lp,h3.ow,h3.vc⟩
         exact h4.put o.dst rfl
       ·cases h
     ·split at h
      ·rename_i u' hu'
       split at h
       ·rename_i huu
        subst huu
        split at h
        ·rename_i b1 q1 hb1
         cases h
         simp only [okBs] at hb
         obtain ⟨v1,v2,⟨a1,b2,r',cc,x1,x2,x3,x4,x5⟩,v3,v4,⟨a2,b3,d2,r2,cc2,z1,z2,z3,z4,z5,z6⟩,hk⟩:=hb
         rw [f1] at x1;cases x1
         rw [hi] at x2;cases x2
         simp only [rel2,Option.some.injEq] at x3
         subst x3
         simp only at x4
         rw [dif_pos ⟨hj0,hjm⟩] at x4
         cases x4;subst x5
         rw [E.val_app _ f1] at z1;cases z1
         rw [E.val_app _ hi] at z2;cases z2
         have hel:(E.var y.g.length).val (env++[⟨u',f ⟨j.toNat,hjm⟩⟩])=some ⟨u',f ⟨j.toNat,hjm⟩⟩:=var_last hI.len
         obtain ⟨F,u1,u2⟩:=val2 hu' hel (E.val_app _ hev)
         rw [u2] at z3;cases z3
         simp only [rel3,dif_pos,Option.some.injEq] at z4
         subst z4
         simp only at z5
         rw [dif_pos ⟨hj0,hjm⟩] at z5
         cases z5;subst z6
         obtain ⟨p1,p2,p3,p4⟩:=updF_enc _ _ _ _ _ (show updF u' w inn=some ⟨u',F⟩ from u1)
         have hl2:(env++[(⟨u',f ⟨j.toNat,hjm⟩⟩:Val)]).length=y.g.length+1:=by rw [List.length_append,hI.len];rfl
         have hlast:=var_last (v:=(⟨.arr m u',fun (i:Fin m)=>if i=⟨j.toNat,hjm⟩ then F (f ⟨j.toNat,hjm⟩) ev else f i⟩:Val)) hl2
         have hc2:=E.val_app [(⟨.arr m u',fun (i:Fin m)=>if i=⟨j.toNat,hjm⟩ then F (f ⟨j.toNat,hjm⟩) ev else f i⟩:Val)] (E.val_app [(⟨u',f ⟨j.toNat,hjm⟩⟩:Val)] hc)
         have fin:∀ (q:b1.den),q1.val (env++[(⟨u',f ⟨j.toNat,hjm⟩⟩:Val)]++[(⟨.arr m u',fun (i:Fin m)=>if i=⟨j.toNat,hjm⟩ then F (f ⟨j.toNat,hjm⟩) ev else f i⟩:Val)])=some ⟨b1,q⟩→b1.ag=some true →
           enc b1 q=over (enc b c) (enc (.arr m u') fun i=>if i=⟨j.toNat,hjm⟩ then F (f ⟨j.toNat,hjm⟩) ev else f i) off→evOp P S p o s k:=by
          intro q e1 e2 e3
          refine storeA_fin (b':=b1) (c:=c) (q:=q) hop hap hx g1 c1 c2 c3 c4 e2 (by omega) (aset_enc (off:=off) (inn:=inn) (c:=c) hjm f3 f2 p1 (p4 _ _) e3) (hk _ ?_)
          have h3:=(hI.snoc (⟨u',f ⟨j.toNat,hjm⟩⟩:Val)).snoc (⟨.arr m u',fun (i:Fin m)=>if i=⟨j.toNat,hjm⟩ then F (f ⟨j.toNat,hjm⟩) ev else f i⟩:Val)
          have h4:Inst (env++[(⟨u',f ⟨j.toNat,hjm⟩⟩:Val)]++[(⟨.arr m u',fun (i:Fin m)=>if i=⟨j.toNat,hjm⟩ then F (f ⟨j.toNat,hjm⟩) ev else f i⟩:Val)]) { (y.more [u',.arr m u']) with bx:=setN n (.e b1 q1) y.bx } { s with bx:=setN n (.d (encD b1 q)) s.bx } :=
           ⟨by have:=h3.g;simp only [Sy.more,List.append_assoc] at this ⊢; exact this,h3.rd,h3.n,h3.ts,h3.sv,h3.bx.setN (by simp only [InstV];exact ⟨_,e1,rfl⟩),h3.lp,h3.ow,h3.vc⟩
          exact h4.put o.dst rfl
         split at hb1
         ·rename_i hwhole
          obtain ⟨hoff,hbarr⟩:=hwhole
          subst hoff;subst hbarr
          cases hb1
          exact fin _ hlast rfl (by rw [over_all (by rw [enc_len,enc_len])])
         ·obtain ⟨b1',hb1',he⟩:=Option.map_eq_some_iff.1 hb1
          cases he
          obtain ⟨G,t1,t2⟩:=val2 hb1' hc2 hlast
          obtain ⟨s1,s2,s3,s4⟩:=updF_enc _ _ _ _ _ (show updF b (.arr m u') off=some ⟨b1,G⟩ from t1)
          exact fin _ t2 (by rw [s3,c3]) (s4 _ _)
        ·cases h
       ·cases h
      ·cases h
    ·cases h
   ·cases h
  ·cases h
 ·cases h
end
end Go.Tx
namespace Go.Tx
open Go Go.Ab
def isScal:Ty→Bool
 | .int _ | .bool | .str | .cst _=>true
 | _=>false
def appendS (P:Program) (p:Name) (y:Sy) (dst:Option Tmp) (t u:TypeId) (a b:SV):Option (Bs×Sy) :=
 match telem P t with
 | some e=>match asS (tyD P u) b with
  | some (w,ye)=>if telem P u=some e∧tsz P e≠0∧isCells (tzero P e)=true∧(tzero P e).cells.length=tsz P e∧w.size=tsz P e∧tbytes P e≠0 then
    (match a with
    | .own i sz w' xe=>if y.ow.contains i=true∧sz=tsz P e∧w=w' then
      some ([(.r2 (.app (tbytes P e)) xe ye,.sl w)],({ ((y.strip i).more [.sl w]) with ow:=i::(y.strip i).ow }:Sy).put dst (.own i sz w (.var y.g.length))) else none
    | .nil=>some ([(.r2 (.app (tbytes P e)) (.zero (.sl w)) ye,.sl w)],({ ((y.strip (dst.getD 0::p)).more [.sl w]) with ow:=(dst.getD 0::p)::(y.strip (dst.getD 0::p)).ow }:Sy).put dst (.own (dst.getD 0::p) (tsz P e) w (.var y.g.length)))
    | _=>none) else none
  | none=>none
 | none=>none
def stOp (P:Program) (p:Name) (y:Sy) (o:Oper):Option (Bs×Sy) :=
 let d:=o.dst.getD 0
 match o.op with
 | .assign x=>match y.get x with
  | some v=>match y.claim (d::p) (esz P o.type) (etD P o.type) v with
   | some (v',y')=>some ([],y'.put o.dst v')
   | none=>none
  | none=>none
 | .alloc t=>match zeroSV P t with
  | some z=>if sizeS z=some (tsz P t) then newS y d p o.dst (esz P t) (etD P t) z else none
  | none=>none
 | .box t x=>match y.get x with
  | some v=>if (sizeS (coeS (tyD P t) v)).isSome=true then newS y d p o.dst (esz P t) (etD P t) (coeS (tyD P t) v) else none
  | none=>none
 | .store t a x=>match y.get a,y.get x with
  | some (.ptr n off),some v=>storeP P y o.dst t n off (coeS (tyD P t) v)
  | some (.aptr n off m u i inn),some v=>storeA P y o.dst t n off m u i inn (coeS (tyD P t) v)
  | _,_=>none
 | .buildSlice t 0 parts=>match telem P t with
  | some e=>if tsz P e≠0∧isCells (tzero P e)=true∧parts = #[] then (match y.claim (d::p) (some (tsz P e)) (tyD P e) .nil with
   | some (v',y')=>some ([],y'.put o.dst v')
   | none=>none) else none
  | none=>none
 | .makeMap t none=>match tmapk P t,tmape P t with
  | some kd,some et=>match tyD P et with
   | some w=>if y.refs (d::p)=false∧isNone' (lookN (d::p) y.bx)=true then some ([],({ y with bx:=(d::p,.mpc kd w (.zero (.mp kd w)))::y.bx }:Sy).put o.dst (.mref (d::p))) else none
   | none=>none
  | _,_=>none
 | .mapUpdate t m ky x=>match tmapk P t,y.get m,y.get ky,y.get x with
  | some kd,some (.mref n),some (.e (.int kd2) a),some (.e w c)=>match lookN n y.bx with
   | some (.mpc kd' u l)=>if kd' = kd∧kd2=kd∧w=u∧isScal w=true then
     some ([],({ y with bx:=setN n (.mpc kd u (.p2 .mput l (.p2 .pair a c))) y.bx }:Sy).put o.dst .dead) else none
   | _=>none
  | _,_,_,_=>none
 | .call c=>match c.callee with
  | .builtin .append=>match c.args.toList,c.argTypes.toList with
   | [x,z],t::u::_=>match y.get x,y.get z with
    | some a,some b=>appendS P p y o.dst t u a b
    | _,_=>none
   | _,_=>none
  | _=>none
 | _=>none
section
variable {P:Program} {S:Sems} {CS:Calls'} {env:List Val} {y:Sy} {s:Sa} {p:Name} {o:Oper} {k:Sa→Prop} {tb:Tab}
theorem mput_rel {t:Ty} (a:Int) {x:t.den} {c:Value} (hc:scal t x=some c):∀ {l:List (Int×t.den)} {kvs:List (Int×Value)},l.map (fun y=>(y.1,scal t y.2))=kvs.map (fun y=>(y.1,some y.2)) →
  (mputV l a x).map (fun y=>(y.1,scal t y.2))=(putKV a c kvs).map (fun y=>(y.1,some y.2))
 | [],[],_=>by simp [mputV,putKV,hc]
 | [],_::_,h=>by simp at h
 | _::_,[],h=>by simp at h
 | (b,z)::l,(b',d)::kvs,h=>by
  simp only [List.map_cons,List.cons.injEq,Prod.mk.injEq] at h
  obtain ⟨⟨h1,h2⟩,h3⟩:=h
  subst h1
  simp only [mputV,putKV]
  split
  ·simp only [List.map_cons,hc,h3]
  ·simp only [List.map_cons,h2,mput_rel a hc h3]
theorem scal_some {w:Ty} (h:isScal w=true) (x:w.den):∃ c,scal w x=some c:=by
 cases w <;> simp [isScal] at h <;> exact ⟨_,rfl⟩
theorem appendS_ok {c:Call} {x z:Operand} {t u:TypeId} {ts:List TypeId} {a b:SV} {bs:Bs} {y' : Sy} (hop:o.op = .call c) (hc:c.callee = .builtin .append) (hx:c.args.toList=[x,z]) (ht:c.argTypes.toList=t::u::ts)
  (ha:InstV env a (s.get x)) (hz:InstV env b (s.get z)) (h:appendS P p y o.dst t u a b=some (bs,y')) (hI:Inst env y s) (hb:okBs CS bs env fun e=>∀ s',Inst e y' s' → k s'):evOp P S p o s k:=by
 unfold appendS at h
 split at h
 ·rename_i e he
  split at h
  ·rename_i w ye hy
   obtain ⟨ys,e1,e2⟩:=asS_ok hy hz
   split at h
   ·rename_i hcond
    obtain ⟨c1,c2,c3,c4,c5,c6⟩:=hcond
    have hall:∀ d∈ys.map (encD w),d.cells.length=tsz P e:=fun d hd=>by
     obtain ⟨q,_,rfl⟩:=List.mem_map.1 hd
     rw [encD_cells,enc_len];exact c5
    split at h
    ·rename_i i sz w' xe
     split at h
     ·rename_i hh
      obtain ⟨h1,h2,h3⟩:=hh
      subst h3
      cases h
      simp only [InstV] at ha
      obtain ⟨xs,g1,g2,g3⟩:=ha
      obtain ⟨r,r1,r2,r3⟩:=ok_last hI.len hb
      obtain ⟨a',b',rr,cc,x1,x2,x3,x4,x5⟩:=r1
      rw [g1] at x1;cases x1
      rw [e1] at x2;cases x2
      simp only [rel2,dif_pos,if_pos c6,Option.some.injEq] at x3
      subst x3
      simp only at x4
      split at x4
      ·rename_i hle
       cases x4;cases x5
       simp only [evOp,hop,hc,hx,ht,List.map_cons,List.map_nil,he,e2,g3]
       have hlen:xs.length+ys.length≤9223372036854775807:=by
        have:=Nat.le_mul_of_pos_right (xs.length+ys.length) (Nat.pos_of_ne_zero c6)
        omega
       refine ⟨c1,c2,c3,c4,hall,by rw [hI.ow];exact List.contains_iff_mem.1 h1,h2,by rw [List.length_map,List.length_map];exact hle,by rw [List.length_map,List.length_map];exact hlen,r2 _ ?_⟩
       have h4:=(hI.strip i).snoc (⟨.sl w,xs++ys⟩:Val)
       have h5:Inst (env++[⟨.sl w,xs++ys⟩]) { ((y.strip i).more [.sl w]) with ow:=i::(y.strip i).ow } { s.strip i with ow:=i::(s.strip i).ow } :=
        ⟨h4.g,h4.rd,h4.n,h4.ts,h4.sv,h4.bx,h4.lp,by have:=h4.ow;simp only [Sy.more] at this;simp only [this],h4.vc⟩
       refine h5.put o.dst ?_
       simp only [InstV]
       exact ⟨xs++ys,r3,g2,by rw [List.map_append]⟩
      ·cases x4
     ·cases h
    ·cases h
     simp only [InstV] at ha
     obtain ⟨r,r1,r2,r3⟩:=ok_last hI.len hb
     obtain ⟨a',b',rr,cc,x1,x2,x3,x4,x5⟩:=r1
     cases x1
     rw [e1] at x2;cases x2
     simp only [rel2,dif_pos,if_pos c6,Option.some.injEq] at x3
     subst x3
     simp only at x4
     split at x4
     ·rename_i hle
      cases x4;cases x5
      simp only [Ty.zero,List.length_nil,Nat.zero_add] at hle
      simp only [evOp,hop,hc,hx,ht,List.map_cons,List.map_nil,he,e2,ha]
      have hlen:ys.length≤9223372036854775807:=by
       have:=Nat.le_mul_of_pos_right ys.length (Nat.pos_of_ne_zero c6)
       omega
      refine ⟨c1,c2,c3,c4,hall,by rw [List.length_map];exact hle,by rw [List.length_map];exact hlen,r2 _ ?_⟩
      have h4:=(hI.strip (o.dst.getD 0::p)).snoc (⟨.sl w,(Ty.sl w).zero++ys⟩:Val)
      have h5:Inst (env++[⟨.sl w,(Ty.sl w).zero++ys⟩]) { ((y.strip (o.dst.getD 0::p)).more [.sl w]) with ow:=(o.dst.getD 0::p)::(y.strip (o.dst.getD 0::p)).ow } { s.strip (o.dst.getD 0::p) with ow:=(o.dst.getD 0::p)::(s.strip (o.dst.getD 0::p)).ow } :=
       ⟨h4.g,h4.rd,h4.n,h4.ts,h4.sv,h4.bx,h4.lp,by have:=h4.ow;simp only [Sy.more] at this;simp only [this],h4.vc⟩
      refine h5.put o.dst ?_
      simp only [InstV]
      exact ⟨_,r3,c5,rfl⟩
     ·cases x4
    ·cases h
   ·cases h
  ·cases h
 ·cases h
theorem stOp_ok (hI:Inst env y s) {bs:Bs} {y' : Sy} (h:stOp P p y o=some (bs,y')) (hb:okBs CS bs env fun e=>∀ s',Inst e y' s' → k s'):evOp P S p o s k:=by
 unfold stOp at h
 simp only at h
 split at h
 ·rename_i x hop
  split at h
  ·rename_i v hv
   split at h
   ·rename_i v' y1 hc
    cases h
    obtain ⟨h1,h2⟩:=hI.claim (hI.get hv) hc
    simp only [evOp,hop]
    exact hb _ (h2.put o.dst h1)
   ·cases h
  ·cases h
 ·rename_i t hop
  split at h
  ·rename_i z hz
   split at h
   ·rename_i hs
    have hv:=zeroSV_ok (env:=env) hz
    obtain ⟨h1,h2,h3⟩:=newS_ok h hI hv hb
    obtain ⟨q1,q2⟩:=sizeS_ok hs hv
    simp only [evOp,hop]
    exact ⟨q1,q2,h1,h2,h3⟩
   ·cases h
  ·cases h
 ·rename_i t x hop
  split at h
  ·rename_i v hv
   split at h
   ·rename_i hs
    have hv':=coeS_ok (w:=tyD P t) (hI.get hv)
    obtain ⟨n,hn⟩:=Option.isSome_iff_exists.1 hs
    obtain ⟨h1,h2,h3⟩:=newS_ok h hI hv' hb
    simp only [evOp,hop]
    exact ⟨(sizeS_ok hn hv').2,h1,h2,h3⟩
   ·cases h
  ·cases h
 ·rename_i t a x hop
  split at h
  ·rename_i n off v h1 h2
   have ha:=hI.get h1
   simp only [InstV] at ha
   exact storeP_ok hop ha (coeS_ok (hI.get h2)) h hI hb
  ·rename_i n off m u i inn v h1 h2
   exact storeA_ok hop (hI.get h1) (coeS_ok (hI.get h2)) h hI hb
  ·cases h
 ·rename_i t parts hop
  split at h
  ·rename_i e he
   split at h
   ·rename_i hh
    split at h
    ·rename_i v' y1 hc
     cases h
     obtain ⟨h1,h2⟩:=hI.claim (show InstV env .nil .nil from rfl) hc
     obtain ⟨c1,c2,c3⟩:=hh
     subst c3
     simp only [evOp,hop,he]
     refine ⟨c1,c2,by omega,rfl,?_⟩
     simp only [List.map_nil,toDs,List.not_mem_nil,false_implies,implies_true,true_and,if_true]
     exact hb _ (h2.put o.dst h1)
    ·cases h
   ·cases h
  ·cases h
 ·rename_i t hop
  split at h
  ·rename_i kd et hk he
   split at h
   ·rename_i w hw
    split at h
    ·rename_i hh
     cases h
     simp only [evOp,hop,hk]
     refine ⟨hI.refs hh.1,(hI.bx.look).2 (isNone_eq hh.2),hb _ ?_⟩
     have h3:Inst env { y with bx:=(o.dst.getD 0::p,.mpc kd w (.zero (.mp kd w)))::y.bx } { s with bx:=(o.dst.getD 0::p,.mpc kd [])::s.bx } :=
      ⟨hI.g,hI.rd,hI.n,hI.ts,hI.sv,⟨_,_,rfl,by simp only [InstV];exact ⟨[],[],rfl,rfl,rfl⟩,hI.bx⟩,hI.lp,hI.ow,hI.vc⟩
     exact h3.put o.dst rfl
    ·cases h
   ·cases h
  ·cases h
 ·rename_i t m ky x hop
  split at h
  ·rename_i kd n kd2 a w c hk h1 h2 h3
   split at h
   ·rename_i kd' u l hl
    split at h
    ·rename_i hh
     obtain ⟨rfl,rfl,rfl,c4⟩:=hh
     cases h
     have i1:=hI.get h1
     have i2:=hI.get h2
     have i3:=hI.get h3
     simp only [InstV] at i1 i2 i3
     obtain ⟨av,e2,e3⟩:=i2
     obtain ⟨cv,e4,e5⟩:=i3
     obtain ⟨b,g1,g2⟩:=(hI.bx.look (n:=n)).1 hl
     simp only [InstV] at g2
     obtain ⟨lv,kvs,e6,rfl,e7⟩:=g2
     obtain ⟨cc,hcc⟩:=scal_some c4 cv
     have hcd:=scal_enc hcc
     simp only [evOp,hop,hk,i1,g1,e3,e5,encD_int,hcd]
     refine ⟨trivial,trivial,hb _ ?_⟩
     have h3:Inst env { y with bx:=setN n (.mpc kd2 w (.p2 .mput l (.p2 .pair a c))) y.bx } { s with bx:=setN n (.mpc kd2 (putKV av cc kvs)) s.bx } :=
      ⟨hI.g,hI.rd,hI.n,hI.ts,hI.sv,hI.bx.setN (by
       simp only [InstV]
       refine ⟨mputV lv av cv,_,?_,rfl,mput_rel av hcc e7⟩
       simp [E.val,app2,e6,e2,e4,prim2]),hI.lp,hI.ow,hI.vc⟩
     exact h3.put o.dst rfl
    ·cases h
   ·cases h
  ·cases h
 ·rename_i c hop
  split at h
  ·rename_i hc
   split at h
   ·rename_i x z t u ts hx ht
    split at h
    ·rename_i a b h1 h2
     exact appendS_ok hop hc hx ht (hI.get h1) (hI.get h2) h hI hb
    ·cases h
   ·cases h
  ·cases h
 ·cases h
end
end Go.Tx
namespace Go.Tx
open Go Go.Ab
theorem flat_enc {u:Ty}:∀ (a:List u.den),flatD (a.map (encD u))=a.flatMap (enc u)
 | []=>rfl
 | x::a=>by simp only [flatD,List.map_cons,List.flatMap_cons,encD_cells];congr 1;exact flat_enc a
theorem flatMap_len {u:Ty}:∀ (a:List u.den),(a.flatMap (enc u)).length=a.length * u.size
 | []=>by simp
 | x::a=>by rw [List.flatMap_cons,List.length_append,flatMap_len a,enc_len,List.length_cons,Nat.succ_mul,Nat.add_comm]
theorem flat_at {u:Ty} (a:List u.den) {j:Nat} (hj:j<a.length) (inn:Nat) (hi:inn≤u.size):((enc u a[j]).drop inn) <+: (flatD (a.map (encD u))).drop (j * u.size+inn):=by
 have e:a=a.take j++(a[j]::a.drop (j+1)):=by rw [List.getElem_cons_drop,List.take_append_drop]
 rw [flat_enc]
 have e2:a.flatMap (enc u)=(a.take j).flatMap (enc u)++(enc u a[j]++(a.drop (j+1)).flatMap (enc u)):=by
  conv=>lhs;rw [e]
  rw [List.flatMap_append,List.flatMap_cons]
 rw [e2]
 have hl:((a.take j).flatMap (enc u)).length=j * u.size:=by rw [flatMap_len,List.length_take,Nat.min_eq_left (by omega)]
 have hd:((a.take j).flatMap (enc u)).drop (j * u.size+inn)=[]:=List.drop_eq_nil_of_le (by rw [hl];exact Nat.le_add_right _ _)
 rw [List.drop_append,hd,List.nil_append,hl,Nat.add_sub_cancel_left,List.drop_append_of_le_length (by rw [enc_len];exact hi)]
 exact List.prefix_append _ _
def isSl (P:Program) (t:TypeId):Bool:=(telem P t).isSome
def lookV (P:Program) (y:Sy) (g:Operand→Option SV) (op:Op):Option (Bs×SV) :=
 match op with
 | .nilCheck x=>match g x with
  | some (.vpt n u i inn)=>some ([],.vpt n u i inn)
  | _=>none
 | .fieldAddr t x i=>match tfield P t i,g x with
  | some (off,ft),some (.vpt n u j inn)=>if tsz P ft≠0 then some ([],.vpt n u j (inn+off)) else none
  | _,_=>none
 | .indexAddr t x ix=>match telem P t,g x,(g ix).bind asI with
  | some e,some (.vsl n),some (q,i)=>match lookN n y.vc with
   | some (u,l)=>if tsz P e≠0∧u.size=tsz P e then some ([(.r2 .idx l i,u)],.vpt n u i 0) else none
   | none=>none
  | _,_,_=>none
 | .load t x=>match tagg P t,g x with
  | some ag,some (.vpt n u i inn)=>match lookN n y.vc with
   | some (u',l)=>if u' = u∧(ag=false→tsz P t≠0)∧inn≤u.size then (match loadE ag (tyD P t) inn (tsz P t) u (.var y.g.length) with
    | some (v,e)=>some ([(.r2 .idx l i,u)],.e v e)
    | none=>none) else none
   | none=>none
  | _,_=>none
 | _=>none
def vecOp (P:Program) (p:Name) (y:Sy) (o:Oper):Option (Bs×Sy) :=
 let nv:=y.g.length
 match lookV P y y.get o.op with
 | some (bs,z)=>some (bs,(y.more (bs.map (·.2))).put o.dst z)
 | none=>match o.op with
 | .store t a x=>match y.get a,y.get x with
  | some (.vpt n u i inn),some v=>match lookN n y.vc,asE (tyD P t) (coeS (tyD P t) v) with
   | some (u',l),some (w,e)=>if u' = u∧w.size=tsz P t∧tsz P t≠0∧inn+w.size≤u.size∧(sizeS (coeS (tyD P t) v)).isSome=true then
     (if w=u∧inn=0 then some ([(.r3 .lset l i e,.sl u)],({ y.more [.sl u] with vc:=setN n (u,.var nv) y.vc }:Sy).put o.dst .dead)
     else if u.ag=some true∧(inn≠0∨w.size≠u.size)∧ty2 (.upd inn) u w=some u then some ([(.r2 .idx l i,u),(.r3 .lset l i (.p2 (.upd inn) (.var nv) e),.sl u)],({ y.more [u,.sl u] with vc:=setN n (u,.var (nv+1)) y.vc }:Sy).put o.dst .dead)
     else none) else none
   | _,_=>none
  | _,_=>none
 | .call c=>match c.callee with
  | .builtin .len=>match c.args.toList,c.argTypes.toList with
   | [x],t::_=>match y.get x with
    | some (.vsl n)=>match lookN n y.vc with
     | some (_,l)=>if isSl P t=true then some ([],y.put o.dst (.e (.int .i64) (.p1 .len l))) else none
     | none=>none
    | _=>none
   | _,_=>none
  | .builtin .append=>match c.args.toList,c.argTypes.toList with
   | [x,z],t::u::_=>match y.get x,y.get z with
    | some (.vsl n),some b=>match lookN n y.vc,telem P t,asS (tyD P u) b with
     | some (w',l),some e,some (w,ye)=>if telem P u=some e∧tsz P e≠0∧isCells (tzero P e)=true∧(tzero P e).cells.length=tsz P e∧w.size=tsz P e∧tbytes P e≠0∧w=w' then
       some ([(.r2 (.app (tbytes P e)) l ye,.sl w)],({ ((y.strip n).more [.sl w]) with ow:=n::(y.strip n).ow,vc:=(n,(w,.var nv))::(y.strip n).vc }:Sy).put o.dst (.vsl n)) else none
     | _,_,_=>none
    | _,_=>none
   | _,_=>none
  | _=>none
 | _=>none
section
variable {P:Program} {S:Sems} {CS:Calls'} {env:List Val} {y:Sy} {s:Sa} {p:Name} {o:Oper} {k:Sa→Prop}
theorem set_whole {u:Ty} (a:List u.den) (j:Nat) (hj:j<a.length) (b:u.den) (hz:u.size≠0):setE u.size (j * u.size+0) (encD u b) (a.map (encD u))=(a.set j b).map (encD u):=by
 have h1:(j * u.size+0) / u.size=j:=by rw [Nat.add_zero,Nat.mul_div_cancel _ (Nat.pos_of_ne_zero hz)]
 have h2:(j * u.size+0) % u.size=0:=by rw [Nat.add_zero,Nat.mul_mod_left]
 unfold setE
 rw [h1,h2,List.getElem?_map,List.getElem?_eq_getElem hj]
 simp only [Option.map_some]
 rw [if_pos ⟨trivial,by rw [encD_cells,encD_cells,enc_len,enc_len]⟩,List.map_set]
theorem set_part {u w:Ty} (a:List u.den) (j:Nat) (hj:j<a.length) {inn:Nat} (b:w.den) (c:u.den) (hag:u.ag=some true) (hin:inn+w.size≤u.size) (hne:inn≠0∨w.size≠u.size) (hw:w.size≠0) (hc:enc u c=over (enc u a[j]) (enc w b) inn) :
  setE u.size (j * u.size+inn) (encD w b) (a.map (encD u))=(a.set j c).map (encD u):=by
 have hz:0<u.size:=by omega
 have h1:(j * u.size+inn) / u.size=j:=by rw [Nat.mul_comm,Nat.mul_add_div hz,Nat.div_eq_of_lt (by omega),Nat.add_zero]
 have h2:(j * u.size+inn) % u.size=inn:=by rw [Nat.mul_comm,Nat.mul_add_mod,Nat.mod_eq_of_lt (by omega)]
 unfold setE
 rw [h1,h2,List.getElem?_map,List.getElem?_eq_getElem hj]
 simp only [Option.map_some]
 rw [if_neg (by rw [encD_cells,encD_cells,enc_len,enc_len];omega),List.map_set]
 congr 1
 rw [encD_cells,encD_cells,encD_ag hag c,hc]
 rfl
theorem lookV_ok {g:Operand→Option SV} {bs:Bs} {z:SV} (hg:∀ o x,g o=some x→InstV env x (s.get o)) (hI:Inst env y s) (h:lookV P y g o.op=some (bs,z)) (hb:okBs CS bs env (Nx o s k z)):evOp P S p o s k:=by
 unfold lookV at h
 split at h
 ·rename_i x hop
  split at h
  ·rename_i n u i inn hx
   cases h
   have hv:=hg _ _ hx
   simp only [InstV] at hv
   obtain ⟨q,j,h1,h2,h3⟩:=hv
   simp only [evOp,hop,h3]
   exact hb _ (by simp only [InstV];exact ⟨q,j,h1,h2,rfl⟩)
  ·cases h
 ·rename_i t x i hop
  split at h
  ·rename_i off ft n u e inn hf hx
   split at h
   ·rename_i hz
    cases h
    have hv:=hg _ _ hx
    simp only [InstV] at hv
    obtain ⟨q,j,h1,h2,h3⟩:=hv
    simp only [evOp,hop,hf,h3]
    exact ⟨hz,hb _ (by simp only [InstV];exact ⟨q,j,h1,h2,by rw [Nat.add_assoc]⟩)⟩
   ·cases h
  ·cases h
 ·rename_i t x ix hop
  split at h
  ·rename_i e n q i he hx hix
   split at h
   ·rename_i u l hl
    split at h
    ·rename_i hc
     cases h
     have hv:=hg _ _ hx
     simp only [InstV] at hv
     obtain ⟨z,hz1,hz2⟩:=Option.bind_eq_some_iff.1 hix
     obtain ⟨j,g1,g2⟩:=asI_ok hz2 (hg _ _ hz1)
     obtain ⟨a,e1,e2⟩:=(hI.vc.look).1 hl
     obtain ⟨c,r1,r2,r3⟩:=ok_last hI.len hb
     obtain ⟨a',b',r,c',x1,x2,x3,x4,x5⟩:=r1
     rw [e1] at x1;cases x1
     rw [g1] at x2;cases x2
     simp only [rel2,Option.some.injEq] at x3
     subst x3
     simp only at x4
     split at x4
     ·rename_i hn
      cases x5
      obtain ⟨hlt,hget⟩:=List.getElem?_eq_some_iff.1 x4
      simp only [evOp,hop,g2,intOfV,he,hv,sliceOf,e2]
      refine ⟨hc.1,hc.2,hn,by rw [List.length_map];omega,r2 _ ?_⟩
      simp only [InstV]
      exact ⟨q,j,E.val_app _ g1,hn,by rw [Nat.add_zero,hc.2]⟩
     ·cases x4
    ·cases h
   ·cases h
  ·cases h
 ·rename_i t x hop
  split at h
  ·rename_i ag n u i inn hag hx
   split at h
   ·rename_i u' l hl
    split at h
    ·rename_i hc
     obtain ⟨rfl,hz,hin⟩:=hc
     split at h
     ·rename_i v e hle
      cases h
      have hv:=hg _ _ hx
      simp only [InstV] at hv
      obtain ⟨q,j,g1,g2,g3⟩:=hv
      obtain ⟨a,e1,e2⟩:=(hI.vc.look).1 hl
      obtain ⟨c,r1,r2,r3⟩:=ok_last hI.len hb
      obtain ⟨a',b',r,c',x1,x2,x3,x4,x5⟩:=r1
      rw [e1] at x1;cases x1
      rw [g1] at x2;cases x2
      simp only [rel2,Option.some.injEq] at x3
      subst x3
      simp only at x4
      rw [if_pos g2] at x4
      cases x5
      obtain ⟨hlt,hget⟩:=List.getElem?_eq_some_iff.1 x4
      subst hget
      have hp:=flat_at a hlt inn hin
      obtain ⟨t1,t2⟩:=takeD_e hle r3 hp
      simp only [evOp,hop,hag,g3,e2]
      exact ⟨hz,t2,r2 _ t1⟩
     ·cases h
    ·cases h
   ·cases h
  ·cases h
 ·cases h
theorem vecOp_ok {bs:Bs} {y' : Sy} (hI:Inst env y s) (hw:EnvWf env) (h:vecOp P p y o=some (bs,y')) (hb:okBs CS bs env fun e=>∀ s',Inst e y' s' → k s'):evOp P S p o s k:=by
 unfold vecOp at h
 simp only at h
 split at h
 ·rename_i bs z hl
  cases h
  refine lookV_ok (fun o x hx=>hI.get hx) hI hl (okBs_mono ?_ (okBs_ext hb))
  rintro e ⟨⟨l,e1,e2⟩,hq⟩ v hv
  subst e1
  have h3:Inst (env++l) (y.more (bs.map (·.2))) s:=by rw [← e2];exact hI.app l
  exact hq _ (h3.put o.dst hv)
 rename_i hnl
 split at h
 ·rename_i t a x hop
  split at h
  ·rename_i n u i inn v ha hx
   split at h
   ·rename_i u' l w e hl has
    split at h
    ·rename_i hc
     obtain ⟨rfl,hws,htz,hin,hsz⟩:=hc
     have hv:=hI.get ha
     simp only [InstV] at hv
     obtain ⟨q,j,g1,g2,g3⟩:=hv
     obtain ⟨al,e1,e2⟩:=(hI.vc.look).1 hl
     have hvv:=coeS_ok (w:=tyD P t) (hI.get hx)
     obtain ⟨b,f1,f2⟩:=asE_ok has hvv
     obtain ⟨nn,hnn⟩:=Option.isSome_iff_exists.1 hsz
     have hcells:=(sizeS_ok hnn hvv).2
     have hdl:(encD w b).cells.length=tsz P t:=by rw [encD_cells,enc_len];exact hws
     have hu0:u'.size≠0:=by omega
     have common:∀ (hlt:j.toNat<al.length) (xs' : List D),setE u'.size (j.toNat * u'.size+inn) (encD w b) (al.map (encD u'))=xs' → k ({ s with vc:=Ab.setN n (u'.size,xs') s.vc }.put o.dst .dead)→evOp P S p o s k:=by
      intro hlt xs' hxs hk
      have d1:(j.toNat * u'.size+inn) / u'.size=j.toNat∨inn=u'.size:=by
       by_cases h:inn<u'.size
       ·left;rw [Nat.mul_comm,Nat.mul_add_div (by omega),Nat.div_eq_of_lt h,Nat.add_zero]
       ·right;omega
      have hin' : inn<u'.size:=by omega
      have d2:(j.toNat * u'.size+inn) / u'.size=j.toNat:=by
       rw [Nat.mul_comm,Nat.mul_add_div (by omega),Nat.div_eq_of_lt hin',Nat.add_zero]
      have d3:(j.toNat * u'.size+inn) % u'.size=inn:=by
       rw [Nat.mul_comm,Nat.mul_add_mod,Nat.mod_eq_of_lt hin']
      simp only [evOp,hop,g3,e2,f2]
      refine ⟨htz,hcells,hdl,by rw [d3];omega,by rw [d2,List.length_map];exact hlt,?_⟩
      rw [hxs];exact hk
     split at h
     ·rename_i hwh
      obtain ⟨rfl,rfl⟩:=hwh
      cases h
      obtain ⟨c,r1,r2,r3⟩:=ok_last hI.len hb
      obtain ⟨a',b',d',r,c',x1,x2,x3,x4,x5,x6⟩:=r1
      rw [e1] at x1;cases x1
      rw [g1] at x2;cases x2
      rw [f1] at x3;cases x3
      simp only [rel3,dif_pos,Option.some.injEq] at x4
      subst x4
      simp only at x5
      split at x5
      ·rename_i hlt
       cases x5;cases x6
       refine common hlt.2 _ (set_whole al j.toNat hlt.2 b hu0) (r2 _ ?_)
       have h4:=hI.snoc (⟨.sl w,al.set j.toNat b⟩:Val)
       have h5:Inst (env++[⟨.sl w,al.set j.toNat b⟩]) ({ y.more [.sl w] with vc:=Ab.setN n (w,.var y.g.length) y.vc }:Sy) ({ s with vc:=Ab.setN n (w.size,(al.set j.toNat b).map (encD w)) s.vc }:Sa) :=
        ⟨h4.g,h4.rd,h4.n,h4.ts,h4.sv,h4.bx,h4.lp,h4.ow,InstC.set r3 h4.vc⟩
       exact h5.put o.dst rfl
      ·cases x5
     ·split at h
      ·rename_i hpt
       obtain ⟨hag,hne,hty⟩:=hpt
       cases h
       obtain ⟨v1,v2,v3,v4⟩:=hb
       obtain ⟨a',b',r,c',x1,x2,x3,x4,x5⟩:=v3
       rw [e1] at x1;cases x1
       rw [g1] at x2;cases x2
       simp only [rel2,Option.some.injEq] at x3
       subst x3
       simp only at x4
       rw [if_pos g2] at x4
       cases x5
       obtain ⟨hlt,hget⟩:=List.getElem?_eq_some_iff.1 x4
       subst hget
       have hlen1:(env++[(⟨u',al[j.toNat]⟩:Val)]).length=y.g.length+1:=by rw [List.length_append,hI.len];rfl
       obtain ⟨c,r1,r2,r3⟩:=ok_last hlen1 v4
       obtain ⟨a',b',d',r,c',x1,x2,x3,x4',x5',x6⟩:=r1
       rw [E.val_app _ e1] at x1;cases x1
       rw [E.val_app _ g1] at x2;cases x2
       have hlast:(E.var y.g.length).val (env++[(⟨u',al[j.toNat]⟩:Val)])=some ⟨u',al[j.toNat]⟩:=var_last hI.len
       obtain ⟨ff,p1,p2⟩:=val2 (o:=.upd inn) hty hlast (E.val_app [(⟨u',al[j.toNat]⟩:Val)] f1)
       rw [p2] at x3;cases x3
       simp only [rel3,dif_pos,Option.some.injEq] at x4'
       subst x4'
       simp only at x5'
       split at x5'
       ·cases x5'; cases x6
        have hup:updF u' w inn=some ⟨u',ff⟩:=p1
        obtain ⟨_,_,_,q4⟩:=updF_enc _ _ _ _ _ hup
        refine common hlt _ (set_part al j.toNat hlt b (ff al[j.toNat] b) hag hin hne (by omega) (q4 _ _)) (r2 _ ?_)
        have h4:=(hI.snoc (⟨u',al[j.toNat]⟩:Val)).snoc (⟨.sl u',al.set j.toNat (ff al[j.toNat] b)⟩:Val)
        have h5:Inst (env++[(⟨u',al[j.toNat]⟩:Val)]++[⟨.sl u',al.set j.toNat (ff al[j.toNat] b)⟩]) ({ y.more [u',.sl u'] with vc:=Ab.setN n (u',.var (y.g.length+1)) y.vc }:Sy) ({ s with vc:=Ab.setN n (u'.size,(al.set j.toNat (ff al[j.toNat] b)).map (encD u')) s.vc }:Sa) :=
         ⟨by have:=h4.g;simpa [Sy.more] using this,h4.rd,h4.n,h4.ts,h4.sv,h4.bx,h4.lp,h4.ow,InstC.set r3 h4.vc⟩
        exact h5.put o.dst rfl
       ·cases x5'
      ·cases h
    ·cases h
   ·cases h
  ·cases h
 ·rename_i c hop
  split at h
  ·rename_i hcl
   split at h
   ·rename_i x t ts hx ht
    split at h
    ·rename_i n hn
     split at h
     ·rename_i u l hl
      split at h
      ·rename_i ht2
       cases h
       have hv:=hI.get hn
       simp only [InstV] at hv
       obtain ⟨a,e1,e2⟩:=(hI.vc.look).1 hl
       obtain ⟨e,he⟩:=Option.isSome_iff_exists.1 ht2
       have hu:=telem_inv he
       simp only [evOp,hop,hcl,hx,ht,List.map_cons,List.map_nil,hv,sliceOf,he,hu,e2]
       refine hb _ (hI.put o.dst ?_)
       simp only [InstV]
       refine ⟨(a.length:Int),?_,by rw [List.length_map];rfl⟩
       simp [E.val,app1,e1,prim1]
      ·cases h
     ·cases h
    ·cases h
   ·cases h
  ·rename_i hcl
   split at h
   ·rename_i x z t u ts hx ht
    split at h
    ·rename_i n b hn hz
     split at h
     ·rename_i w' l e w ye hl he has
      split at h
      ·rename_i hc
       obtain ⟨c1,c2,c3,c4,c5,c6,rfl⟩:=hc
       cases h
       have hv:=hI.get hn
       simp only [InstV] at hv
       obtain ⟨a,e1,e2⟩:=(hI.vc.look).1 hl
       obtain ⟨ys,f1,f2⟩:=asS_ok has (hI.get hz)
       obtain ⟨r,r1,r2,r3⟩:=ok_last hI.len hb
       obtain ⟨a',b',rr,cc,x1,x2,x3,x4,x5⟩:=r1
       rw [e1] at x1;cases x1
       rw [f1] at x2;cases x2
       simp only [rel2,dif_pos,if_pos c6,Option.some.injEq] at x3
       subst x3
       simp only at x4
       split at x4
       ·rename_i hle
        cases x4;cases x5
        have hall:∀ d∈ys.map (encD w),d.cells.length=tsz P e:=fun d hd=>by
         obtain ⟨q,_,rfl⟩:=List.mem_map.1 hd
         rw [encD_cells,enc_len];exact c5
        have hlen:a.length+ys.length≤9223372036854775807:=by
         have:=Nat.le_mul_of_pos_right (a.length+ys.length) (Nat.pos_of_ne_zero c6)
         omega
        simp only [evOp,hop,hcl,hx,ht,List.map_cons,List.map_nil,he,f2,hv,e2]
        refine ⟨c1,c2,c3,c4,hall,c5,by rw [List.length_map,List.length_map];exact hle,by rw [List.length_map,List.length_map];exact hlen,r2 _ ?_⟩
        have h4:=(hI.strip n).snoc (⟨.sl w,a++ys⟩:Val)
        have h5:Inst (env++[⟨.sl w,a++ys⟩]) ({ ((y.strip n).more [.sl w]) with ow:=n::(y.strip n).ow,vc:=(n,(w,.var y.g.length))::(y.strip n).vc }:Sy) ({ s.strip n with ow:=n::(s.strip n).ow,vc:=(n,(w.size,a.map (encD w)++ys.map (encD w)))::(s.strip n).vc }:Sa) :=
         ⟨h4.g,h4.rd,h4.n,h4.ts,h4.sv,h4.bx,h4.lp,by have:=h4.ow;simp only [Sy.more] at this;simp only [this],⟨a++ys,_,by rw [List.map_append],r3,h4.vc⟩⟩
        exact h5.put o.dst rfl
       ·cases x4
      ·cases h
     ·cases h
    ·cases h
   ·cases h
  ·cases h
 ·cases h
end
end Go.Tx
namespace Go.Tx
open Go Go.Ab
def reduceG (gs:List E) (z:SV):SV:=match z with
 | .gd hs x=>match hs.filter (fun h=>!(gs.any (fun g=>g.same h))) with
  | []=>x
  | hs'=>.gd hs' x
 | z=>z
def typedB (Γ:List Ty):SV→Bool
 | .e t x=>decide (tyE Γ x=some t)
 | .ref t x _=>decide (tyE Γ x=some t)
 | .own _ _ t x=>decide (tyE Γ x=some (.sl t))
 | _=>true
def finE (n0:Nat) (bs:Bs) (z:SV):Bs×SV:=match z with
 | .e t x=>if 24<x.size then (bs++[(.lets x,t)],.e t (.var (n0+bs.length))) else (bs,z)
 | z=>(bs,z)
def opS (P:Program) (tb:Tab) (p:Name) (y:Sy) (o:Oper):Option (Bs×Sy) :=
 match valOp P tb y y.get o.op with
 | some (bs,z)=>some ((finE y.g.length bs z).1,(y.more ((finE y.g.length bs z).1.map (·.2))).put o.dst (finE y.g.length bs z).2)
 | none=>match stOp P p y o with
  | some r=>some r
  | none=>vecOp P p y o
def opG (P:Program) (tb:Tab) (y:Sy) (o:Oper) (gs:List E):Option (Bs×Sy) :=
 match valOp P tb y (fun x=>(y.get x).map (reduceG gs)) o.op with
 | some (bs,z)=>if typedB (y.g++bs.map (·.2)) z=true then some (bs.map (fun b=>(.ifb gs b.1 b.2,b.2)),(y.more (bs.map (·.2))).put o.dst (.gd gs z)) else none
 | none=>match lookV P y (fun x=>(y.get x).map (reduceG gs)) o.op with
  | some (bs,z)=>if typedB (y.g++bs.map (·.2)) z=true then some (bs.map (fun b=>(.ifb gs b.1 b.2,b.2)),(y.more (bs.map (·.2))).put o.dst (.gd gs z)) else none
  | none=>none
def dstOK (n:Nat):Option Tmp→Bool
 | some d=>decide (d<n)
 | none=>true
def oneOp (P:Program) (tb:Tab) (p:Name) (ops:Array Oper) (y:Sy) (o:Oper):Option (Bs×Sy) :=
 if dstOK y.n o.dst=true then (match o.guard with
  | none=>opS P tb p y o
  | some (j,want)=>match (ops[j]?).bind (·.dst) with
   | some t=>match lkS t y.ts with
    | .e .bool (.bool b)=>if b=want then opS P tb p y o else some ([],y.put o.dst (.tup []))
    | .e .bool c=>opG P tb y o [if want then c else .p1 .not c]
    | .gd gs (.e .bool c)=>opG P tb y o (gs++[if want then c else .p1 .not c])
    | .tup []=>some ([],y.put o.dst (.tup []))
    | _=>none
   | none=>none) else none
section
variable {P:Program} {S:Sems} {env:List Val} {y:Sy} {s:Sa} {p:Name} {o:Oper} {k:Sa→Prop} {tb:Tab}
theorem holds_mem {gs:List E} (h:holds env gs=some true):∀ g∈gs,g.val env=some ⟨.bool,true⟩:=by
 induction gs with
 | nil=>simp
 | cons g gs ih =>
  simp only [holds] at h
  split at h
  ·rename_i b r h1 h2
   simp only [Option.some.injEq,Bool.and_eq_true] at h
   obtain ⟨rfl,rfl⟩:=h
   intro x hx
   rcases List.mem_cons.1 hx with rfl | hx
   ·exact h1
   ·exact ih h2 x hx
  ·cases h
theorem holds_filter {gs:List E} (h:holds env gs=some true):∀ {hs:List E} {b:Bool},holds env hs=some b→holds env (hs.filter (fun h=>!(gs.any (fun g=>g.same h))))=some b
 | [],b,e=>e
 | x::hs,b,e=>by
  simp only [holds] at e
  split at e
  ·rename_i c r h1 h2
   cases e
   have ih:=holds_filter h h2
   simp only [List.filter_cons]
   split
   ·simp only [holds,h1,ih]
   ·rename_i hn
    simp only [Bool.not_eq_true',Bool.not_eq_false] at hn
    obtain ⟨g,hg,hs'⟩:=List.any_eq_true.1 hn
    have:=E.same_eq hs'
    subst this
    have h3:=holds_mem h g hg
    rw [h1] at h3;cases h3
    simpa using ih
  ·cases e
theorem reduceG_ok {gs:List E} (h:holds env gs=some true) {z:SV} {v:V} (hv:InstV env z v):InstV env (reduceG gs z) v:=by
 unfold reduceG
 split
 ·rename_i hs x
  have hv':=hv
  simp only [InstV] at hv
  obtain ⟨b,h1,h2,h3,h4⟩:=hv
  have hf:=holds_filter h h1
  split
  ·rename_i he
   rw [he] at hf
   simp only [holds] at hf;cases hf
   exact h3 rfl
  ·simp only [InstV]
   exact ⟨b,hf,h2,h3,h4⟩
 ·exact hv
theorem typedB_ok {Γ:List Ty} (hg:env.map (·.1)=Γ) {z:SV} (h:typedB Γ z=true):typed env z:=by
 cases z <;> simp only [typedB,decide_eq_true_eq] at h <;> simp only [typed]
 ·exact tyE_ok hg h
 ·exact tyE_ok hg h
 ·exact tyE_ok hg h
theorem Inst.ext {env l:List Val} {ts:List Ty} (hI:Inst env y s) (h:l.map (·.1)=ts):Inst (env++l) (y.more ts) s:=by
 subst h;exact hI.app l
theorem nx_of {CS:Calls'} {bs:Bs} {z:SV} (hI:Inst env y s) (h:okBs CS bs env fun e=>∀ s',Inst e ((y.more (bs.map (·.2))).put o.dst z) s' → k s'):okBs CS bs env (Nx o s k z):=by
 refine okBs_mono ?_ (okBs_ext h)
 rintro e ⟨⟨l,e1,e2⟩,hq⟩ v hv
 subst e1
 exact hq _ ((hI.ext e2).put o.dst hv)
theorem finE_ok {CS:Calls'} {bs:Bs} {z:SV} (hI:Inst env y s) (h:okBs CS (finE y.g.length bs z).1 env fun e=>∀ s',Inst e ((y.more ((finE y.g.length bs z).1.map (·.2))).put o.dst (finE y.g.length bs z).2) s' → k s') :
  okBs CS bs env (Nx o s k z):=by
 unfold finE at h
 split at h
 ·rename_i t x
  split at h
  ·rw [okBs_app] at h
   refine okBs_mono ?_ (okBs_ext h)
   rintro e ⟨⟨l,e1,e2⟩,hq⟩ v hv
   subst e1
   simp only [okBs] at hq
   obtain ⟨w,w1,w2,w3⟩:=hq
   simp only [InstV] at hv
   obtain ⟨a,h1,rfl⟩:=hv
   have w2' : x.val (env++l)=some w:=w2
   rw [h1] at w2'
   cases w2'
   rw [List.append_assoc] at w3
   refine w3 _ ((hI.ext (l:=l++[⟨t,a⟩]) (by simp [e2])).put o.dst ?_)
   simp only [InstV]
   refine ⟨a,?_,rfl⟩
   rw [← List.append_assoc]
   refine var_last ?_
   have:=congrArg List.length e2
   simp only [List.length_map] at this
   rw [List.length_append,hI.len,this]
  ·exact nx_of hI h
 ·exact nx_of hI h
theorem opS_ok (hS:PureS P S) (hI:Inst env y s) (hw:EnvWf env) (hd:∀ d,o.dst=some d→d<s.n) {bs:Bs} {y' : Sy} (h:opS P tb p y o=some (bs,y')) (hb:okBs (CallV P) bs env fun e=>∀ s',Inst e y' s' → k s'):evOp P S p o s k:=by
 unfold opS at h
 split at h
 ·rename_i bs' z hv
  cases h
  exact valOp_ok hS (fun o x hx=>hI.get hx) hI hw hd hv (finE_ok hI hb)
 ·split at h
  ·rename_i r hst
   cases h
   exact stOp_ok hI hst hb
  ·exact vecOp_ok hI hw h hb
theorem okBs_if {CS:Calls'} {gs:List E}:∀ {bs:Bs} {env:List Val} {Q:List Val→Prop} {c:Bool},holds env gs=some c→okBs CS (bs.map fun b=>(B.ifb gs b.1 b.2,b.2)) env Q →
  (c=true→okBs CS bs env Q)∧(c=false→∃ l:List Val,l.map (·.1)=bs.map (·.2)∧Q (env++l))
 | [],env,Q,c,hc,h=>⟨fun _=>h,fun _=>⟨[],rfl,by rw [List.append_nil];exact h⟩⟩
 | b::bs,env,Q,c,hc,h=>by
  simp only [List.map_cons,okBs] at h
  obtain ⟨v,v1,⟨c',v2,v3,v4⟩,v5⟩:=h
  rw [hc] at v2;cases v2
  have ih:=okBs_if (holds_app [v] hc) v5
  refine ⟨fun e=>⟨v,v1,(v3 e).1,ih.1 e⟩,fun e=>?_⟩
  obtain ⟨l,l1,l2⟩:=ih.2 e
  exact ⟨v::l,by simp [v1,l1],by simpa using l2⟩
theorem opG_ok (hS:PureS P S) (hI:Inst env y s) (hw:EnvWf env) (hd:∀ d,o.dst=some d→d<s.n) {gs:List E} {c:Bool} (hc:holds env gs=some c) {bs:Bs} {y' : Sy} (h:opG P tb y o gs=some (bs,y')) (hb:okBs (CallV P) bs env fun e=>∀ s',Inst e y' s' → k s') :
  (c=true→evOp P S p o s k)∧(c=false→k (s.put o.dst (.tup []))):=by
 have gg:c=true→∀ o x,((y.get o).map (reduceG gs))=some x→InstV env x (s.get o):=fun e o x hx=>by
  subst e
  obtain ⟨x',g1,rfl⟩:=Option.map_eq_some_iff.1 hx
  exact reduceG_ok hc (hI.get g1)
 have key:∀ {bs0:Bs} {z:SV},typedB (y.g++bs0.map (·.2)) z=true→okBs (CallV P) (bs0.map (fun b=>(.ifb gs b.1 b.2,b.2))) env (fun e=>∀ s',Inst e ((y.more (bs0.map (·.2))).put o.dst (.gd gs z)) s' → k s') →
   (c=true→okBs (CallV P) bs0 env (Nx o s k z))∧(c=false→k (s.put o.dst (.tup []))):=by
  intro bs0 z ht hb
  obtain ⟨h1,h2⟩:=okBs_if hc hb
  refine ⟨fun e=>?_,fun e=>?_⟩
  ·subst e
   refine okBs_mono ?_ (okBs_ext (h1 rfl))
   rintro e ⟨⟨l,e1,e2⟩,hq⟩ v hv
   subst e1
   have h3:=hI.ext e2
   refine hq _ (h3.put o.dst ?_)
   simp only [InstV]
   exact ⟨true,holds_app l hc,typedB_ok h3.g ht,fun _=>hv,fun e=>nomatch e⟩
  ·subst e
   obtain ⟨l,l1,l2⟩:=h2 rfl
   have h3:=hI.ext l1
   refine l2 _ (h3.put o.dst ?_)
   simp only [InstV]
   exact ⟨false,holds_app l hc,typedB_ok h3.g ht,fun e=>(nomatch e),fun _=>trivial⟩
 unfold opG at h
 split at h
 ·rename_i bs' z hv
  split at h
  ·rename_i ht
   cases h
   obtain ⟨k1,k2⟩:=key ht hb
   exact ⟨fun e=>valOp_ok hS (gg e) hI hw hd hv (k1 e),k2⟩
  ·cases h
 ·split at h
  ·rename_i bs' z hv
   split at h
   ·rename_i ht
    cases h
    obtain ⟨k1,k2⟩:=key ht hb
    exact ⟨fun e=>lookV_ok (gg e) hI hv (k1 e),k2⟩
   ·cases h
  ·cases h
theorem setT_self {t:Nat} {v:V}:∀ {l:List (Nat×V)},lkT t l=v→v ≠ .dead→setT t v l=l
 | [],h,hn=>absurd h.symm hn
 | (a,b)::l,h,hn=>by
  simp only [lkT] at h
  simp only [setT]
  split at h
  ·rename_i e;rw [if_pos e,h]
  ·rename_i e;rw [if_neg e,setT_self h hn]
theorem put_self {t:Nat} {v:V} (h:lkT t s.ts=v) (hn:v ≠ .dead):s.put (some t) v=s:=by
 simp only [Sa.put,setT_self h hn]
theorem holds_snoc {gs:List E} {g:E} {b c:Bool} (h1:holds env gs=some b) (h2:g.val env=some ⟨.bool,c⟩):holds env (gs++[g])=some (b&&c):=by
 induction gs generalizing b with
 | nil=>cases h1;simp [holds,h2]
 | cons x gs ih =>
  simp only [holds] at h1
  split at h1
  ·rename_i d r e1 e2
   cases h1
   simp only [List.cons_append,holds,e1,ih e2,Bool.and_assoc]
  ·cases h1
theorem wantE_val {c:E} {b:Bool} (want:Bool) (h:c.val env=some ⟨.bool,b⟩):(if want=true then c else .p1 .not c).val env=some ⟨.bool,b==want⟩:=by
 cases want with
 | true=>simp [h]
 | false=>cases b <;> simp [E.val,app1,h,prim1]
theorem oneOp_ok (hS:PureS P S) {ops:Array Oper} {rest:List Oper} (hth:thrOp P o rest=none) (hI:Inst env y s) (hw:EnvWf env) {bs:Bs} {y' : Sy} (h:oneOp P tb p ops y o=some (bs,y'))
  (hb:okBs (CallV P) bs env fun e=>∀ s',Inst e y' s' → evOps P S p ops rest s' k):evOps P S p ops (o::rest) s k:=by
 unfold oneOp at h
 split at h
 ·rename_i hdst
  have hd:match o.dst with | some d=>d<s.n | none=>True:=by
   cases hdd:o.dst with
   | none=>trivial
   | some d=>rw [hdd] at hdst;simp only [dstOK,decide_eq_true_eq] at hdst;show d<s.n;rw [hI.n];exact hdst
  have hd' : ∀ d,o.dst=some d→d<s.n:=fun d e=>by rw [e] at hd;exact hd
  simp only [evOps,hth]
  refine ⟨hd,?_⟩
  split at h
  ·rename_i hg
   simp only [hg]
   exact opS_ok hS hI hw hd' h hb
  ·rename_i j want hg
   simp only [hg]
   split at h
   ·rename_i t ht
    simp only [ht]
    have hlk:=hI.ts.lk (t:=t)
    have known:∀ {c:E} {b:Bool} {gs:List E} {r:Bool},c.val env=some ⟨.bool,b⟩→lkT t s.ts = .d (.v (.bool b))→holds env gs=some (r&&(b==want))→r=true→opG P tb y o gs=some (bs,y') →
      CaseB b (let s1:=s.put (some t) (.d (.v (.bool true)));if want=true then evOp P S p o s1 (fun s'=>evOps P S p ops rest s' k) else evOps P S p ops rest (s1.put o.dst (.tup [])) k)
       (let s1:=s.put (some t) (.d (.v (.bool false)));if want=true then evOps P S p ops rest (s1.put o.dst (.tup [])) k else evOp P S p o s1 (fun s'=>evOps P S p ops rest s' k)):=by
     intro c b gs r hc hl hh hr ho
     subst hr
     rw [Bool.true_and] at hh
     obtain ⟨h1,h2⟩:=opG_ok (k:=fun s'=>evOps P S p ops rest s' k) (p:=p) hS hI hw hd' hh ho hb
     cases b with
     | true =>
      simp only [caseB_true]
      rw [put_self hl (by simp)]
      cases want with
      | true=>exact h1 rfl
      | false=>exact h2 rfl
     | false =>
      simp only [caseB_false]
      rw [put_self hl (by simp)]
      cases want with
      | true=>exact h2 rfl
      | false=>exact h1 rfl
    split at h
    ·rename_i b hb0
     rw [hb0] at hlk
     simp only [InstV] at hlk
     obtain ⟨a,h1,h2⟩:=hlk
     cases h1
     rw [h2,encD_bool]
     simp only
     have hp:=put_self (s:=s) h2 (by simp)
     rw [encD_bool] at hp
     split at h
     ·rename_i e
      subst e
      have:=opS_ok (k:=fun s'=>evOps P S p ops rest s' k) (p:=p) hS hI hw hd' h hb
      cases b with
      | true=>simp only [caseB_true,if_true];rw [hp];exact this
      | false=>simp only [caseB_false,Bool.false_eq_true,if_false];rw [hp];exact this
     ·rename_i e
      cases h
      have:=hb _ (hI.put o.dst (show InstV env (.tup []) (.tup []) from ⟨[],rfl,rfl⟩))
      cases b with
      | true =>
       have hw' : want=false:=by cases want <;> simp_all
       simp only [caseB_true,hw',Bool.false_eq_true,if_false];rw [hp];exact this
      | false =>
       have hw' : want=true:=by cases want <;> simp_all
       simp only [caseB_false,hw',if_true];rw [hp];exact this
    ·rename_i c _ hb0
     rw [hb0] at hlk
     simp only [InstV] at hlk
     obtain ⟨b,h1,h2⟩:=hlk
     rw [h2,encD_bool]
     simp only
     rw [encD_bool] at h2
     exact known (r:=true) h1 h2 (by rw [holds_one (wantE_val want h1),Bool.true_and]) rfl h
    ·rename_i gs c hb0
     rw [hb0] at hlk
     simp only [InstV,typed] at hlk
     obtain ⟨r,h1,⟨b,h2⟩,h3,h4⟩:=hlk
     cases r with
     | true =>
      obtain ⟨b',h5,h6⟩:=h3 rfl
      rw [h2] at h5;cases h5
      rw [h6,encD_bool]
      simp only
      rw [encD_bool] at h6
      exact known (r:=true) h2 h6 (holds_snoc h1 (wantE_val want h2)) rfl h
     | false =>
      rw [h4 rfl]
      simp only
      have hh:=holds_snoc h1 (wantE_val want h2)
      rw [Bool.false_and] at hh
      exact (opG_ok (k:=fun s'=>evOps P S p ops rest s' k) (p:=p) hS hI hw hd' hh h hb).2 rfl
    ·rename_i hb0
     rw [hb0] at hlk
     simp only [InstV,InstL] at hlk
     obtain ⟨cc,h1,h2⟩:=hlk
     subst h2
     cases h
     rw [h1]
     simp only
     exact hb _ (hI.put o.dst (show InstV env (.tup []) (.tup []) from ⟨[],rfl,rfl⟩))
    ·cases h
   ·cases h
 ·cases h
end
end Go.Tx
namespace Go.Tx
open Go Go.Ab
def sameEs:List E→List E→Bool
 | [],[]=>true
 | x::xs,y::ys=>x.same y&&sameEs xs ys
 | _,_=>false
theorem sameEs_eq:∀ {xs ys:List E},sameEs xs ys=true→xs=ys
 | [],[],_=>rfl
 | x::xs,y::ys,h=>by
  simp only [sameEs,Bool.and_eq_true] at h
  rw [E.same_eq h.1,sameEs_eq h.2]
 | [],_::_,h=>by simp [sameEs] at h
 | _::_,[],h=>by simp [sameEs] at h
mutual
def SV.same:SV→SV→Bool
 | .e t x,.e u y=>x.same y&&decide (t=u)
 | .nil,.nil=>true
 | .own i a t x,.own j b u y=>decide (i=j)&&Nat.beq a b&&x.same y&&decide (t=u)
 | .ptr n o,.ptr m p=>decide (n=m)&&Nat.beq o p
 | .aptr n o m t i a,.aptr n' o' m' t' i' a'=>decide (n=n')&&Nat.beq o o' && Nat.beq m m' && decide (t=t')&&i.same i' && Nat.beq a a'
 | .ref t x o,.ref u y p=>x.same y&&Nat.beq o p&&decide (t=u)
 | .fn f c,.fn g d=>Nat.beq f g&&SV.sameL c d
 | .yld l,.yld m=>decide (l=m)
 | .mref l,.mref m=>decide (l=m)
 | .mpc k t x,.mpc q u y=>decide (k=q)&&x.same y&&decide (t=u)
 | .agg c,.agg d=>SV.sameL c d
 | .mix t x os zs,.mix u y ps ws=>x.same y&&decide (os=ps)&&decide (t=u)&&SV.sameL zs ws
 | .tup c,.tup d=>SV.sameL c d
 | .gd gs x,.gd hs y=>sameEs gs hs&&SV.same x y
 | .vsl n,.vsl m=>decide (n=m)
 | .vpt n t i a,.vpt m u j b=>decide (n=m)&&decide (t=u)&&i.same j&&Nat.beq a b
 | .dead,.dead=>true
 | _,_=>false
def SV.sameL:List SV→List SV→Bool
 | [],[]=>true
 | x::xs,y::ys=>SV.same x y&&SV.sameL xs ys
 | _,_=>false
end
mutual
theorem SV.same_eq:∀ (x:SV) {y:SV},x.same y=true→x=y:=by
 intro x y h
 cases x with
 | e t x=>cases y <;> simp only [SV.same,Bool.false_eq_true,Bool.and_eq_true,decide_eq_true_eq] at h;rw [E.same_eq h.1,h.2]
 | nil=>cases y <;> first | rfl | (simp only [SV.same,Bool.false_eq_true] at h)
 | own i a t x=>cases y <;> simp only [SV.same,Bool.false_eq_true,Bool.and_eq_true,decide_eq_true_eq] at h;rw [h.1.1.1,Nat.eq_of_beq_eq_true h.1.1.2,E.same_eq h.1.2,h.2]
 | ptr n o=>cases y <;> simp only [SV.same,Bool.false_eq_true,Bool.and_eq_true,decide_eq_true_eq] at h;rw [h.1,Nat.eq_of_beq_eq_true h.2]
 | aptr n o m t i a =>
  cases y <;> simp only [SV.same,Bool.false_eq_true,Bool.and_eq_true,decide_eq_true_eq] at h
  obtain ⟨⟨⟨⟨⟨h1,h2⟩,h3⟩,h4⟩,h5⟩,h6⟩:=h
  rw [h1,Nat.eq_of_beq_eq_true h2,Nat.eq_of_beq_eq_true h3,h4,E.same_eq h5,Nat.eq_of_beq_eq_true h6]
 | ref t x o=>cases y <;> simp only [SV.same,Bool.false_eq_true,Bool.and_eq_true,decide_eq_true_eq] at h;rw [E.same_eq h.1.1,Nat.eq_of_beq_eq_true h.1.2,h.2]
 | fn f c=>cases y <;> simp only [SV.same,Bool.false_eq_true,Bool.and_eq_true] at h;rw [Nat.eq_of_beq_eq_true h.1,SV.sameL_eq c h.2]
 | yld l=>cases y <;> simp only [SV.same,Bool.false_eq_true,decide_eq_true_eq] at h;rw [h]
 | vsl l=>cases y <;> simp only [SV.same,Bool.false_eq_true,decide_eq_true_eq] at h;rw [h]
 | vpt n t i a =>
  cases y <;> simp only [SV.same,Bool.false_eq_true,Bool.and_eq_true,decide_eq_true_eq] at h
  obtain ⟨⟨⟨h1,h2⟩,h3⟩,h4⟩:=h
  rw [h1,h2,E.same_eq h3,Nat.eq_of_beq_eq_true h4]
 | mref l=>cases y <;> simp only [SV.same,Bool.false_eq_true,decide_eq_true_eq] at h;rw [h]
 | mpc k t x=>cases y <;> simp only [SV.same,Bool.false_eq_true,Bool.and_eq_true,decide_eq_true_eq] at h;rw [h.1.1,E.same_eq h.1.2,h.2]
 | agg c=>cases y <;> simp only [SV.same,Bool.false_eq_true] at h;rw [SV.sameL_eq c h]
 | mix t x os zs=>cases y <;> simp only [SV.same,Bool.false_eq_true,Bool.and_eq_true,decide_eq_true_eq] at h;rw [E.same_eq h.1.1.1,h.1.1.2,h.1.2,SV.sameL_eq zs h.2]
 | tup c=>cases y <;> simp only [SV.same,Bool.false_eq_true] at h;rw [SV.sameL_eq c h]
 | kd c=>cases y <;> simp only [SV.same,Bool.false_eq_true] at h
 | gd gs x=>cases y <;> simp only [SV.same,Bool.false_eq_true,Bool.and_eq_true] at h;rw [sameEs_eq h.1,SV.same_eq x h.2]
 | dead=>cases y <;> first | rfl | (simp only [SV.same,Bool.false_eq_true] at h)
theorem SV.sameL_eq:∀ (xs:List SV) {ys:List SV},SV.sameL xs ys=true→xs=ys:=by
 intro xs ys h
 cases xs with
 | nil=>cases ys <;> first | rfl | (simp only [SV.sameL,Bool.false_eq_true] at h)
 | cons x xs =>
  cases ys with
  | nil=>simp only [SV.sameL,Bool.false_eq_true] at h
  | cons y ys=>simp only [SV.sameL,Bool.and_eq_true] at h;rw [SV.same_eq x h.1,SV.sameL_eq xs h.2]
end
def ltEs (n:Nat) (gs:List E):Bool:=gs.all (·.lt n)
mutual
def SV.lt (n:Nat):SV→Bool
 | .e _ x=>x.lt n
 | .own _ _ _ x=>x.lt n
 | .aptr _ _ _ _ i _=>i.lt n
 | .vpt _ _ i _=>i.lt n
 | .ref _ x _=>x.lt n
 | .fn _ c=>SV.ltL n c
 | .mpc _ _ x=>x.lt n
 | .agg c=>SV.ltL n c
 | .mix _ x _ zs=>x.lt n&&SV.ltL n zs
 | .tup c=>SV.ltL n c
 | .gd gs x=>ltEs n gs&&SV.lt n x
 | _=>true
def SV.ltL (n:Nat):List SV→Bool
 | []=>true
 | x::xs=>SV.lt n x&&SV.ltL n xs
end
theorem holds_lt {env:List Val} (l:List Val):∀ {gs:List E},ltEs env.length gs=true→holds (env++l) gs=holds env gs
 | [],_=>rfl
 | g::gs,h=>by
  simp only [ltEs,List.all_cons,Bool.and_eq_true] at h
  simp only [holds,E.val_lt l h.1,holds_lt l (gs:=gs) h.2]
theorem typed_lt {env:List Val} (l:List Val) {x:SV} (h:SV.lt env.length x=true) (ht:typed (env++l) x):typed env x:=by
 cases x <;> simp only [typed,SV.lt] at h ht ⊢
 all_goals (rw [E.val_lt l h] at ht;exact ht)
mutual
theorem InstV.lt {env:List Val} (l:List Val):∀ {x:SV} {v:V},x.lt env.length=true→InstV (env++l) x v→InstV env x v
 | .e t x,v,h,hv=>by simp only [InstV,SV.lt] at h hv ⊢; rw [E.val_lt l h] at hv;exact hv
 | .nil,v,h,hv=>hv
 | .own id sz t x,v,h,hv=>by simp only [InstV,SV.lt] at h hv ⊢; rw [E.val_lt l h] at hv;exact hv
 | .ptr n off,v,h,hv=>hv
 | .aptr n off m t i inn,v,h,hv=>by simp only [InstV,SV.lt] at h hv ⊢; rw [E.val_lt l h] at hv;exact hv
 | .ref t x off,v,h,hv=>by simp only [InstV,SV.lt] at h hv ⊢; rw [E.val_lt l h] at hv;exact hv
 | .fn f cap,v,h,hv=>by simp only [InstV,SV.lt] at h hv ⊢; obtain ⟨c,h1,h2⟩:=hv;exact ⟨c,h1,InstL.lt l h h2⟩
 | .yld n,v,h,hv=>hv
 | .vsl n,v,h,hv=>hv
 | .vpt n t i inn,v,h,hv=>by simp only [InstV,SV.lt] at h hv ⊢; rw [E.val_lt l h] at hv;exact hv
 | .mref n,v,h,hv=>hv
 | .mpc k t x,v,h,hv=>by simp only [InstV,SV.lt] at h hv ⊢; rw [E.val_lt l h] at hv;exact hv
 | .agg cs,v,h,hv=>by simp only [InstV,SV.lt] at h hv ⊢; obtain ⟨c,h1,h2⟩:=hv;exact ⟨c,h1,InstL.lt l h h2⟩
 | .mix t x os zs,v,h,hv=>by
  simp only [InstV,SV.lt,Bool.and_eq_true] at h hv ⊢
  rw [E.val_lt l h.1] at hv
  obtain ⟨a,c,h1,h2,h3,h4,h5⟩:=hv
  exact ⟨a,c,h1,h2,h3,InstP.lt l h.2 h4,h5⟩
 | .tup cs,v,h,hv=>by simp only [InstV,SV.lt] at h hv ⊢; obtain ⟨c,h1,h2⟩:=hv;exact ⟨c,h1,InstL.lt l h h2⟩
 | .kd cs,v,h,hv=>hv
 | .gd gs x,v,h,hv=>by
  simp only [InstV,SV.lt,Bool.and_eq_true] at h hv ⊢
  rw [holds_lt l h.1] at hv
  obtain ⟨b,h1,h0,h2,h3⟩:=hv
  exact ⟨b,h1,typed_lt l h.2 h0,fun e=>InstV.lt l h.2 (h2 e),h3⟩
 | .dead,v,h,hv=>hv
theorem InstL.lt {env:List Val} (l:List Val):∀ {xs:List SV} {vs:List V},SV.ltL env.length xs=true→InstL (env++l) xs vs→InstL env xs vs
 | [],vs,h,hv=>hv
 | x::xs,vs,h,hv=>by
  simp only [InstL,SV.ltL,Bool.and_eq_true] at h hv ⊢
  obtain ⟨v,vs',h1,h2,h3⟩:=hv
  exact ⟨v,vs',h1,InstV.lt l h.1 h2,InstL.lt l h.2 h3⟩
theorem InstP.lt {env:List Val} (l:List Val):∀ {zs:List SV} {os:List Nat} {c:List V},SV.ltL env.length zs=true→InstP (env++l) os zs c→InstP env os zs c
 | [],os,c,h,hv=>hv
 | z::zs,os,c,h,hv=>by
  simp only [InstP,SV.ltL,Bool.and_eq_true] at h hv ⊢
  obtain ⟨i,os',h1,⟨v,h2,h3⟩,h4⟩:=hv
  exact ⟨i,os',h1,⟨v,h2,InstV.lt l h.1 h3⟩,InstP.lt l h.2 h4⟩
end
end Go.Tx
namespace Go.Tx
open Go Go.Ab
mutual
def SV.soft (i:Name) (u:Ty) (q:E):SV→SV
 | .own j sz t x=>if j=i then .e (.sl t) x else .own j sz t x
 | .vsl n=>if n=i then .own i u.size u q else .vsl n
 | .vpt n t x inn=>if n=i then .dead else .vpt n t x inn
 | .fn f c=>.fn f (SV.softL i u q c)
 | .agg c=>.agg (SV.softL i u q c)
 | .mix t x os zs=>.mix t x os (SV.softL i u q zs)
 | .tup c=>.tup (SV.softL i u q c)
 | .gd gs x=>.gd gs (SV.soft i u q x)
 | x=>x
def SV.softL (i:Name) (u:Ty) (q:E):List SV→List SV
 | []=>[]
 | v::vs=>SV.soft i u q v::SV.softL i u q vs
end
def Sy.soft (i:Name) (y:Sy):Sy:=match lookN i y.vc with
 | some (u,q)=>{ y with ts:=y.ts.map fun z=>(z.1,z.2.soft i u q),sv:=y.sv.map (fun (f:SFr)=>{ f with ts:=f.ts.map fun z=>(z.1,z.2.soft i u q) }),bx:=y.bx.map (fun x=>(x.1,x.2.soft i u q)),vc:=y.vc.filter (fun x=>x.1 != i) }
 | none=>y
section
variable {env:List Val} {u:Ty} {q:E} {a:List u.den}
theorem typed_soft (hq:q.val env=some ⟨.sl u,a⟩) {i:Name} {x:SV} (h:typed env x):typed env (SV.soft i u q x):=by
 cases x <;> simp only [SV.soft] <;> try exact h
 ·split
  ·simp only [typed] at h ⊢; exact h
  ·exact h
 ·split
  ·exact ⟨a,hq⟩
  ·simp [typed]
 ·split <;> simp [typed]
mutual
theorem InstV.soft (hq:q.val env=some ⟨.sl u,a⟩) (i:Name):∀ {x:SV} {v:V},InstV env x v→InstV env (x.soft i u q) (v.soft i u.size (a.map (encD u)))
 | .e t x,v,h=>by simp only [InstV,SV.soft] at h ⊢; obtain ⟨a,h1,rfl⟩:=h;exact ⟨a,h1,rfl⟩
 | .nil,v,h=>by simp only [InstV] at h;subst h;simp [SV.soft,V.soft,InstV]
 | .own j sz t x,v,h=>by
  simp only [InstV] at h
  obtain ⟨a,h1,h2,rfl⟩:=h
  simp only [SV.soft,V.soft]
  split
  ·simp only [InstV];exact ⟨a,h1,rfl⟩
  ·simp only [InstV];exact ⟨a,h1,h2,rfl⟩
 | .ptr n off,v,h=>by simp only [InstV] at h;subst h;simp [SV.soft,V.soft,InstV]
 | .aptr n off m t e inn,v,h=>by simp only [InstV,SV.soft] at h ⊢; obtain ⟨k,j,h1,h2,h3,rfl⟩:=h;exact ⟨k,j,h1,h2,h3,rfl⟩
 | .ref t x off,v,h=>by simp only [InstV,SV.soft] at h ⊢; obtain ⟨a,cs,h1,rfl,h2⟩:=h;exact ⟨a,cs,h1,rfl,h2⟩
 | .fn f cap,v,h=>by simp only [InstV,SV.soft] at h ⊢; obtain ⟨c,rfl,h2⟩:=h;exact ⟨_,rfl,InstL.soft hq i h2⟩
 | .yld l,v,h=>by simp only [InstV] at h;subst h;simp [SV.soft,V.soft,InstV]
 | .mref n,v,h=>by simp only [InstV] at h;subst h;simp [SV.soft,V.soft,InstV]
 | .mpc k t x,v,h=>by simp only [InstV,SV.soft] at h ⊢; obtain ⟨a,kvs,h1,rfl,h2⟩:=h;exact ⟨a,kvs,h1,rfl,h2⟩
 | .agg cs,v,h=>by simp only [InstV,SV.soft] at h ⊢; obtain ⟨c,rfl,h2⟩:=h;exact ⟨_,rfl,InstL.soft hq i h2⟩
 | .mix t x os zs,v,h=>by
  simp only [InstV,SV.soft] at h ⊢
  obtain ⟨b,c,h1,rfl,h3,h4,h5⟩:=h
  refine ⟨b,V.softL i u.size (a.map (encD u)) c,h1,rfl,by rw [V.softL_map,List.length_map];exact h3,InstP.soft hq i h4,fun j hj hn=>?_⟩
  rw [V.softL_map,List.getElem?_map,h5 j hj hn]
  cases (enc t b)[j]? <;> rfl
 | .tup cs,v,h=>by simp only [InstV,SV.soft] at h ⊢; obtain ⟨c,rfl,h2⟩:=h;exact ⟨_,rfl,InstL.soft hq i h2⟩
 | .kd cs,v,h=>by simp only [InstV] at h;subst h;simp [SV.soft,V.soft,InstV]
 | .gd gs x,v,h=>by
  simp only [InstV,SV.soft] at h ⊢
  obtain ⟨b,h1,h0,h2,h3⟩:=h
  refine ⟨b,h1,typed_soft hq h0,fun e=>InstV.soft hq i (h2 e),fun e=>?_⟩
  rw [h3 e];rfl
 | .vsl n,v,h=>by
  simp only [InstV] at h;subst h
  simp only [SV.soft,V.soft]
  split
  ·simp only [InstV];exact ⟨a,hq,trivial,rfl⟩
  ·simp [InstV]
 | .vpt n t x inn,v,h=>by
  simp only [InstV] at h
  obtain ⟨k,j,h1,h2,rfl⟩:=h
  simp only [SV.soft,V.soft]
  split
  ·simp [InstV]
  ·simp only [InstV];exact ⟨k,j,h1,h2,rfl⟩
 | .dead,v,h=>by simp only [InstV] at h;subst h;simp [SV.soft,V.soft,InstV]
theorem InstL.soft (hq:q.val env=some ⟨.sl u,a⟩) (i:Name):∀ {xs:List SV} {vs:List V},InstL env xs vs→InstL env (SV.softL i u q xs) (V.softL i u.size (a.map (encD u)) vs)
 | [],vs,h=>by simp only [InstL] at h;subst h;simp [SV.softL,V.softL,InstL]
 | x::xs,vs,h=>by
  simp only [InstL] at h
  obtain ⟨v,vs',rfl,h2,h3⟩:=h
  simp only [SV.softL,V.softL,InstL]
  exact ⟨_,_,rfl,InstV.soft hq i h2,InstL.soft hq i h3⟩
theorem InstP.soft (hq:q.val env=some ⟨.sl u,a⟩) (i:Name):∀ {zs:List SV} {os:List Nat} {c:List V},InstP env os zs c→InstP env os (SV.softL i u q zs) (V.softL i u.size (a.map (encD u)) c)
 | [],os,c,h=>h
 | z::zs,os,c,h=>by
  simp only [InstP,SV.softL] at h ⊢
  obtain ⟨j,os',h1,⟨v,h2,h3⟩,h4⟩:=h
  exact ⟨j,os',h1,⟨v.soft i u.size (a.map (encD u)),by rw [V.softL_map,List.getElem?_map,h2];rfl,InstV.soft hq i h3⟩,InstP.soft hq i h4⟩
end
end
theorem Inst.soft {env:List Val} {y:Sy} {s:Sa} (h:Inst env y s) (i:Name):Inst env (y.soft i) (s.soft i):=by
 unfold Sy.soft Sa.soft
 cases hl:lookN i y.vc with
 | none=>rw [(h.vc.look).2 hl];exact h
 | some c =>
  obtain ⟨u,q⟩:=c
  obtain ⟨a,h1,h2⟩:=(h.vc.look).1 hl
  rw [h2]
  exact ⟨h.g,h.rd,h.n,h.ts.map (fun _ _ h=>InstV.soft h1 i h),h.sv.map (fun _ _ h=>InstV.soft h1 i h),h.bx.map (fun _ _ h=>InstV.soft h1 i h),h.lp,h.ow,h.vc.filter (q:=fun j=>j != i)⟩
theorem Sy.soft_lp {i:Name} {y:Sy}:(y.soft i).lp=y.lp:=by unfold Sy.soft;split <;> rfl
theorem Sy.soft_g {i:Name} {y:Sy}:(y.soft i).g=y.g:=by unfold Sy.soft;split <;> rfl
def softAll (ids:List Name) (y:Sy):Sy:=ids.foldl (fun y i=>y.soft i) y
end Go.Tx
namespace Go.Tx
open Go Go.Ab
def parV (n0:Nat) (args:List E) (x:E):E→Bool
 | .var i=>Nat.ble n0 i&&(match args[i - n0]? with | some y=>x.same y | none=>false)
 | _=>false
mutual
def fitV (n0:Nat) (args:List E) (z:SV) (zJ:SV):Bool :=
 (z.same zJ&&z.lt n0) || (match z with
 | .e t x=>(match zJ with | .e u y=>decide (t=u)&&parV n0 args x y | _=>false)
 | .own i a t x=>(match zJ with | .own j b u y=>decide (i=j)&&Nat.beq a b&&decide (t=u)&&parV n0 args x y | _=>false)
 | .mpc k t x=>(match zJ with | .mpc q u y=>decide (k=q)&&decide (t=u)&&parV n0 args x y | _=>false)
 | .ref t x a=>(match zJ with | .ref u y b=>decide (t=u)&&Nat.beq a b&&parV n0 args x y | _=>false)
 | .agg cs=>(match zJ with | .agg ds=>fitL n0 args cs ds | _=>false)
 | .mix t x os zs=>(match zJ with | .mix u y ps ws=>decide (t=u)&&decide (os=ps)&&(parV n0 args x y || (x.same y&&x.lt n0))&&fitL n0 args zs ws | _=>false)
 | .fn f cs=>(match zJ with | .fn g ds=>Nat.beq f g&&fitL n0 args cs ds | _=>false)
 | _=>false)
def fitL (n0:Nat) (args:List E) (zs:List SV) (zJs:List SV):Bool:=match zs with
 | []=>(match zJs with | []=>true | _=>false)
 | x::xs=>(match zJs with | y::ys=>fitV n0 args x y&&fitL n0 args xs ys | _=>false)
end
theorem evs_get {env:List Val}:∀ {es:List E} {vs:List Val},evs env es=some vs→∀ {i:Nat} {x:E},es[i]? = some x→∃ v,vs[i]? = some v∧x.val env=some v
 | [],vs,h,i,x,hx=>by simp at hx
 | e::es,vs,h,i,x,hx=>by
  simp only [evs] at h
  split at h
  ·rename_i v vs' h1 h2
   cases h
   cases i with
   | zero=>simp at hx;subst hx;exact ⟨v,by simp,h1⟩
   | succ i=>simpa using evs_get h2 (by simpa using hx)
  ·cases h
theorem parV_ok {env0 l:List Val} {args:List E} {vs:List Val} (hv:evs (env0++l) args=some vs) {x y:E} {v:Val} (h:parV env0.length args x y=true) (hx:x.val (env0++l)=some v):y.val (env0++vs)=some v:=by
 unfold parV at h
 split at h
 ·rename_i i
  simp only [Bool.and_eq_true] at h
  obtain ⟨h1,h2⟩:=h
  have hle:=Nat.le_of_ble_eq_true h1
  split at h2
  ·rename_i y' hy
   have:=E.same_eq h2
   subst this
   obtain ⟨w,g1,g2⟩:=evs_get hv hy
   rw [hx] at g2;cases g2
   simp only [E.val]
   rw [List.getElem?_append_right hle];exact g1
  ·cases h2
 ·cases h
mutual
theorem fitV_ok {env0 l:List Val} {args:List E} {vs:List Val} (hv:evs (env0++l) args=some vs):∀ (z:SV) {zJ:SV} {v:V},fitV env0.length args z zJ=true→InstV (env0++l) z v→InstV (env0++vs) zJ v:=by
 intro z zJ v h hz
 rw [fitV.eq_def,Bool.or_eq_true] at h
 rcases h with h | h
 ·simp only [Bool.and_eq_true] at h
  have:=SV.same_eq _ h.1
  subst this
  exact (InstV.lt l h.2 hz).app vs
 ·cases z with
  | e t x =>
   cases zJ with
   | e u y =>
    simp only [Bool.and_eq_true,decide_eq_true_eq] at h
    obtain ⟨rfl,h⟩:=h
    simp only [InstV] at hz ⊢
    obtain ⟨a,h1,h2⟩:=hz
    exact ⟨a,parV_ok hv h h1,h2⟩
   | _=>simp at h
  | own i a t x =>
   cases zJ with
   | own j b u y =>
    simp only [Bool.and_eq_true,decide_eq_true_eq] at h
    obtain ⟨⟨⟨rfl,hab⟩,rfl⟩,h⟩:=h
    have:=Nat.eq_of_beq_eq_true hab
    subst this
    simp only [InstV] at hz ⊢
    obtain ⟨c,h1,h2⟩:=hz
    exact ⟨c,parV_ok hv h h1,h2⟩
   | _=>simp at h
  | mpc k t x =>
   cases zJ with
   | mpc q u y =>
    simp only [Bool.and_eq_true,decide_eq_true_eq] at h
    obtain ⟨⟨rfl,rfl⟩,h⟩:=h
    simp only [InstV] at hz ⊢
    obtain ⟨c,kvs,h1,h2⟩:=hz
    exact ⟨c,kvs,parV_ok hv h h1,h2⟩
   | _=>simp at h
  | ref t x a =>
   cases zJ with
   | ref u y b =>
    simp only [Bool.and_eq_true,decide_eq_true_eq] at h
    obtain ⟨⟨rfl,hab⟩,h⟩:=h
    have:=Nat.eq_of_beq_eq_true hab
    subst this
    simp only [InstV] at hz ⊢
    obtain ⟨c,cs,h1,h2⟩:=hz
    exact ⟨c,cs,parV_ok hv h h1,h2⟩
   | _=>simp at h
  | agg cs =>
   cases zJ with
   | agg ds =>
    simp only [InstV] at hz ⊢
    obtain ⟨c,h1,h2⟩:=hz
    exact ⟨c,h1,fitL_ok hv cs h h2⟩
   | _=>simp at h
  | mix t x os zs =>
   cases zJ with
   | mix u y ps ws =>
    simp only [Bool.and_eq_true,Bool.or_eq_true,decide_eq_true_eq] at h
    obtain ⟨⟨⟨rfl,rfl⟩,hb⟩,hf⟩:=h
    simp only [InstV] at hz ⊢
    obtain ⟨a,c,h1,h2,h3,h4,h5⟩:=hz
    refine ⟨a,c,?_,h2,h3,fitP_ok hv zs hf h4,h5⟩
    rcases hb with hb | hb
    ·exact parV_ok hv hb h1
    ·have:=E.same_eq hb.1
     subst this
     rw [E.val_lt l hb.2] at h1
     exact E.val_app vs h1
   | _=>simp at h
  | fn f cs =>
   cases zJ with
   | fn g ds =>
    simp only [Bool.and_eq_true] at h
    have:=Nat.eq_of_beq_eq_true h.1
    subst this
    simp only [InstV] at hz ⊢
    obtain ⟨c,h1,h2⟩:=hz
    exact ⟨c,h1,fitL_ok hv cs h.2 h2⟩
   | _=>simp at h
  | _=>simp at h
theorem fitL_ok {env0 l:List Val} {args:List E} {vs:List Val} (hv:evs (env0++l) args=some vs):∀ (zs:List SV) {zJs:List SV} {us:List V},fitL env0.length args zs zJs=true→InstL (env0++l) zs us→InstL (env0++vs) zJs us:=by
 intro zs zJs us h hz
 cases zs with
 | nil =>
  cases zJs with
  | nil=>exact hz
  | cons y ys=>simp [fitL] at h
 | cons x xs =>
  cases zJs with
  | nil=>simp [fitL] at h
  | cons y ys =>
   simp only [fitL,Bool.and_eq_true] at h
   simp only [InstL] at hz ⊢
   obtain ⟨v,vs',h1,h2,h3⟩:=hz
   exact ⟨v,vs',h1,fitV_ok hv x h.1 h2,fitL_ok hv xs h.2 h3⟩
theorem fitP_ok {env0 l:List Val} {args:List E} {vs:List Val} (hv:evs (env0++l) args=some vs):∀ (zs:List SV) {ws:List SV} {os:List Nat} {c:List V},fitL env0.length args zs ws=true→InstP (env0++l) os zs c→InstP (env0++vs) os ws c:=by
 intro zs ws os c h hz
 cases zs with
 | nil =>
  cases ws with
  | nil=>exact hz
  | cons y ys=>simp [fitL] at h
 | cons x xs =>
  cases ws with
  | nil=>simp [fitL] at h
  | cons y ys =>
   simp only [fitL,Bool.and_eq_true] at h
   simp only [InstP] at hz ⊢
   obtain ⟨i,os',h1,⟨v,h2,h3⟩,h4⟩:=hz
   exact ⟨i,os',h1,⟨v,h2,fitV_ok hv x h.1 h3⟩,fitP_ok hv xs h.2 h4⟩
end
def fitT (n0:Nat) (args:List E) (ts:List (Nat×SV)):List (Nat×SV)→Bool
 | []=>true
 | (t,z)::l=>fitV n0 args (lkS t ts) z&&fitT n0 args ts l
def fitB (n0:Nat) (args:List E) (bx:List (Name×SV)):List (Name×SV)→Bool
 | []=>true
 | (n,z)::l=>(match lookN n bx with | some y=>fitV n0 args y z | none=>false)&&fitB n0 args bx l
def sameK (n0:Nat):List (Nat×SV)→List (Nat×SV)→Bool
 | [],[]=>true
 | (a,x)::l,(b,y)::m=>Nat.beq a b&&x.same y&&x.lt n0&&sameK n0 l m
 | _,_=>false
def sameF (n0:Nat):List SFr→List SFr→Bool
 | [],[]=>true
 | f::fs,g::gs=>decide (f.rd=g.rd)&&Nat.beq f.n g.n&&sameK n0 f.ts g.ts&&sameF n0 fs gs
 | _,_=>false
def jmpB:Option (Option Code)→Option (Option Code)→Bool
 | none,none=>true
 | some none,some none=>true
 | some (some (.exit i)),some (some (.exit j))=>Nat.beq i j
 | some (some .ret),some (some .ret)=>true
 | _,_=>false
def lpB:List (Name×Lp)→List (Name×Lp)→Bool
 | [],[]=>true
 | (n,p)::l,(m,q)::k=>decide (n=m)&&jmpB p.pending q.pending&&lpB l k
 | _,_=>false
def fitC (n0:Nat) (args:List E) (vc:List (Name×Ty×E)):List (Name×Ty×E)→Bool
 | []=>true
 | (n,t,x)::l=>(match lookN n vc with | some (u,y)=>decide (u=t)&&((y.same x&&y.lt n0) || parV n0 args y x) | none=>false)&&fitC n0 args vc l
def fitsY (n0:Nat) (args:List E) (y yJ:Sy):Bool :=
 decide (y.rd=yJ.rd)&&Nat.beq y.n yJ.n&&fitT n0 args y.ts yJ.ts&&sameF n0 y.sv yJ.sv&&fitB n0 args y.bx yJ.bx&&lpB y.lp yJ.lp&&yJ.ow.all (fun i=>y.ow.contains i)&&fitC n0 args y.vc yJ.vc&&yJ.vc.all (fun c=>yJ.ow.contains c.1)
theorem jmpB_eq {a b:Option (Option Code)} (h:jmpB a b=true):a=b:=by
 unfold jmpB at h
 split at h <;> first | rfl | (rw [Nat.eq_of_beq_eq_true h]) | cases h
def lpS (l:List (Name×Lp)):List (Name×(Nat×Array Tmp×Code×Code)):=l.map fun x=>(x.1,x.2.depth,x.2.ps,x.2.assign,x.2.body)
theorem lpB_eq:∀ {l k:List (Name×Lp)},lpB l k=true→lpS l=lpS k→l=k
 | [],[],_,_=>rfl
 | (n,p)::l,(m,q)::k,h,hs=>by
  simp only [lpB,Bool.and_eq_true,decide_eq_true_eq] at h
  simp only [lpS,List.map_cons,List.cons.injEq,Prod.mk.injEq] at hs
  obtain ⟨⟨h1,h2⟩,h3⟩:=h
  obtain ⟨⟨_,s1,s2,s3,s4⟩,s5⟩:=hs
  have e:p=q:=by
   obtain ⟨d,ps,a,b,pd⟩:=p
   obtain ⟨d',ps',a',b',pd'⟩:=q
   simp only at s1 s2 s3 s4 h2
   rw [s1,s2,s3,s4,jmpB_eq h2]
  rw [h1,e,lpB_eq h3 s5]
 | [],_::_,h,_=>by simp [lpB] at h
 | _::_,[],h,_=>by simp [lpB] at h
theorem sameK_ok {env0 l vs:List Val}:∀ {xs ys:List (Nat×SV)} {us:List (Nat×V)},sameK env0.length xs ys=true→InstK (env0++l) xs us→InstK (env0++vs) ys us
 | [],[],us,h,hz=>hz
 | (a,x)::xs,(b,y)::ys,us,h,hz=>by
  simp only [sameK,Bool.and_eq_true] at h
  obtain ⟨⟨⟨h1,h2⟩,h3⟩,h4⟩:=h
  have e1:=Nat.eq_of_beq_eq_true h1
  have e2:=SV.same_eq _ h2
  subst e1;subst e2
  simp only [InstK] at hz ⊢
  obtain ⟨v,vs',g1,g2,g3⟩:=hz
  exact ⟨v,vs',g1,(InstV.lt l h3 g2).app vs,sameK_ok h4 g3⟩
 | [],_::_,_,h,_=>by simp [sameK] at h
 | _::_,[],_,h,_=>by simp [sameK] at h
theorem sameF_ok {env0 l vs:List Val}:∀ {xs ys:List SFr} {us:List Fr},sameF env0.length xs ys=true→InstF (env0++l) xs us→InstF (env0++vs) ys us
 | [],[],us,h,hz=>hz
 | f::xs,g::ys,us,h,hz=>by
  simp only [sameF,Bool.and_eq_true,decide_eq_true_eq] at h
  obtain ⟨⟨⟨h1,h2⟩,h3⟩,h4⟩:=h
  have e2:=Nat.eq_of_beq_eq_true h2
  simp only [InstF] at hz ⊢
  obtain ⟨v,vs',g1,g2,g3,g4,g5⟩:=hz
  exact ⟨v,vs',g1,by rw [g2,h1],by rw [g3,e2],sameK_ok h3 g4,sameF_ok h4 g5⟩
 | [],_::_,_,h,_=>by simp [sameF] at h
 | _::_,[],_,h,_=>by simp [sameF] at h
theorem fitT_ok {env0 l:List Val} {args:List E} {vs:List Val} (hv:evs (env0++l) args=some vs) {ts:List (Nat×SV)} {us:List (Nat×V)} (hi:InstK (env0++l) ts us):∀ {js:List (Nat×SV)},fitT env0.length args ts js=true →
  InstK (env0++vs) js (js.map fun x=>(x.1,lkT x.1 us))
 | [],_=>rfl
 | (t,z)::js,h=>by
  simp only [fitT,Bool.and_eq_true] at h
  exact ⟨_,_,rfl,fitV_ok hv _ h.1 hi.lk,fitT_ok hv hi h.2⟩
theorem fitB_ok {env0 l:List Val} {args:List E} {vs:List Val} (hv:evs (env0++l) args=some vs) {bx:List (Name×SV)} {us:List (Name×V)} (hi:InstK (env0++l) bx us):∀ {js:List (Name×SV)},fitB env0.length args bx js=true →
  InstK (env0++vs) js (js.map fun x=>(x.1,(lookN x.1 us).getD .dead))∧∀ x∈js.map (fun x=>(x.1,(lookN x.1 us).getD V.dead)),lookN x.1 us=some x.2
 | [],_=>⟨rfl,by simp⟩
 | (n,z)::js,h=>by
  simp only [fitB,Bool.and_eq_true] at h
  obtain ⟨h1,h2⟩:=h
  split at h1
  ·rename_i y hy
   obtain ⟨v,e1,e2⟩:=(hi.look (n:=n)).1 hy
   obtain ⟨r1,r2⟩:=fitB_ok hv hi h2
   refine ⟨⟨_,_,rfl,by rw [e1];exact fitV_ok hv _ h1 e2,r1⟩,?_⟩
   intro x hx
   rw [List.map_cons] at hx
   rcases List.mem_cons.1 hx with rfl | hx
   ·simp only [e1,Option.getD_some]
   ·exact r2 x hx
  ·cases h1
theorem fitC_ok {env0 l:List Val} {args:List E} {vs:List Val} (hv:evs (env0++l) args=some vs) {vc:List (Name×Ty×E)} {us:List (Name×Nat×List D)} (hi:InstC (env0++l) vc us):∀ {js:List (Name×Ty×E)},fitC env0.length args vc js=true →
  InstC (env0++vs) js (js.map fun x=>(x.1,(lookN x.1 us).getD default))∧∀ x∈js.map (fun x=>(x.1,(lookN x.1 us).getD default)),lookN x.1 us=some x.2
 | [],_=>⟨rfl,by simp⟩
 | (n,t,x)::js,h=>by
  simp only [fitC,Bool.and_eq_true] at h
  obtain ⟨h1,h2⟩:=h
  split at h1
  ·rename_i u y hy
   simp only [Bool.and_eq_true,Bool.or_eq_true,decide_eq_true_eq] at h1
   obtain ⟨rfl,h1⟩:=h1
   obtain ⟨a,e1,e2⟩:=(hi.look (n:=n)).1 hy
   obtain ⟨r1,r2⟩:=fitC_ok hv hi h2
   refine ⟨⟨a,_,?_,?_,r1⟩,?_⟩
   ·simp only [List.map_cons,e2,Option.getD_some]
   ·rcases h1 with h1 | h1
    ·have:=E.same_eq h1.1
     subst this
     rw [E.val_lt l h1.2] at e1
     exact E.val_app vs e1
    ·exact parV_ok hv h1 e1
   ·intro z hz
    rw [List.map_cons] at hz
    rcases List.mem_cons.1 hz with rfl | hz
    ·simp only [e2,Option.getD_some]
    ·exact r2 z hz
  ·cases h1
theorem fitsY_ok {env0 l:List Val} {args:List E} {vs:List Val} {y yJ:Sy} {s:Sa} (hf:fitsY env0.length args y yJ=true) (hl:lpS y.lp=lpS yJ.lp) (hI:Inst (env0++l) y s) (hv:evs (env0++l) args=some vs)
  (hg:(env0++vs).map (·.1)=yJ.g):∃ s',Wk s s' ∧ Inst (env0++vs) yJ s':=by
 simp only [fitsY,Bool.and_eq_true,decide_eq_true_eq] at hf
 obtain ⟨⟨⟨⟨⟨⟨⟨⟨h1,h2⟩,h3⟩,h4⟩,h5⟩,h6⟩,h7⟩,h8⟩,h9⟩:=hf
 have e2:=Nat.eq_of_beq_eq_true h2
 have e6:=lpB_eq h6 hl
 obtain ⟨b1,b2⟩:=fitB_ok hv hI.bx h5
 obtain ⟨c1,c2⟩:=fitC_ok hv hI.vc h8
 refine ⟨{ s with ts:=yJ.ts.map fun x=>(x.1,lkT x.1 s.ts),bx:=yJ.bx.map fun x=>(x.1,(lookN x.1 s.bx).getD .dead),ow:=yJ.ow,vc:=yJ.vc.map fun x=>(x.1,(lookN x.1 s.vc).getD default) },?_,?_⟩
 ·refine Wk.lists rfl rfl rfl (fun x hx=>?_) rfl (fun x hx=>b2 x hx) (fun i hi=>?_) (fun n c hn=>?_)
  ·obtain ⟨z,_,rfl⟩:=List.mem_map.1 hx;rfl
  ·have:=List.all_eq_true.1 h7 i hi
   rw [hI.ow];exact List.contains_iff_mem.1 this
  ·have hm:=lookN_mem hn
   refine ⟨c2 _ hm,fun _=>?_⟩
   obtain ⟨z,hz,e⟩:=List.mem_map.1 hm
   have:=List.all_eq_true.1 h9 z hz
   have e1:z.1=n:=by simpa using congrArg Prod.fst e
   rw [e1] at this
   exact List.contains_iff_mem.1 this
 ·exact ⟨hg,by rw [← h1];exact hI.rd,by rw [← e2];exact hI.n,fitT_ok hv hI.ts h3,sameF_ok h4 hI.sv,b1,by rw [← e6];exact hI.lp,rfl,c1⟩
theorem Wk_trans {s s' s'' : Sa} (h:Wk s s') (h' : Wk s' s''):Wk s s'':=fun Mo m as w hR=>by
 obtain ⟨m1,h1,h2,h3⟩:=h Mo m as w hR
 obtain ⟨m2,h4,h5,h6⟩:=h' Mo m1 as w h1
 exact ⟨m2,h4,h2.trans h5,h6.trans h3⟩
theorem Wk_strip {s:Sa} (i:Name):Wk s (s.strip i):=fun Mo m as w hR =>
 ⟨m,hR.strip i,(Step.refl m s w).strip i,rfl⟩
def prepOne (i:Name) (y:Sy):Sy:=match i with
 | 987654321::j=>y.soft j
 | i=>(y.soft i).strip i
theorem prepOne_ok {env:List Val} {y:Sy} {s:Sa} (h:Inst env y s) (i:Name):∃ s',Wk s s' ∧ Inst env (prepOne i y) s':=by
 unfold prepOne
 split
 ·exact ⟨_,Wk_soft s _,h.soft _⟩
 ·exact ⟨_,Wk_trans (Wk_soft s i) (Wk_strip i),(h.soft i).strip i⟩
theorem prepOne_lp {i:Name} {y:Sy}:(prepOne i y).lp=y.lp:=by
 unfold prepOne
 split
 ·exact Sy.soft_lp
 ·exact Sy.soft_lp
theorem prepOne_g {i:Name} {y:Sy}:(prepOne i y).g=y.g:=by
 unfold prepOne
 split
 ·exact Sy.soft_g
 ·exact Sy.soft_g
def stripAll (ids:List Name) (y:Sy):Sy:=ids.foldl (fun y i=>prepOne i y) y
theorem stripAll_ok {env:List Val}:∀ {ids:List Name} {y:Sy} {s:Sa},Inst env y s→∃ s',Wk s s' ∧ Inst env (stripAll ids y) s'
 | [],y,s,h=>⟨s,Wk.refl,h⟩
 | i::ids,y,s,h=>by
  obtain ⟨s0,w0,h0⟩:=prepOne_ok h i
  obtain ⟨s',h1,h2⟩:=stripAll_ok (ids:=ids) h0
  exact ⟨s',Wk_trans w0 h1,h2⟩
theorem softAll_ok {env:List Val}:∀ {ids:List Name} {y:Sy} {s:Sa},Inst env y s→∃ s',Wk s s' ∧ Inst env (softAll ids y) s'
 | [],y,s,h=>⟨s,Wk.refl,h⟩
 | i::ids,y,s,h=>by
  obtain ⟨s',h1,h2⟩:=softAll_ok (ids:=ids) (h.soft i)
  exact ⟨s',Wk_trans (Wk_soft s i) h1,h2⟩
theorem stripAll_lp {ids:List Name} {y:Sy}:(stripAll ids y).lp=y.lp:=by
 unfold stripAll
 induction ids generalizing y with
 | nil=>rfl
 | cons i ids ih =>
  simp only [List.foldl_cons]
  rw [ih]
  exact prepOne_lp
theorem toD_one {c:V} {d:D} (h:c.toD=some d):c.isMpc=false∧((∃ vs ds,c = .agg vs∧toDs V.toD1 vs=some ds∧d = .agg ds)∨c = .d d∨(c.cells=[c]∧d.cells=[d])):=by
 cases c <;> simp only [V.toD,V.toD1,reduceCtorEq,Option.some.injEq,Option.map_eq_some_iff] at h
 case d x=>subst h;exact ⟨rfl,.inr (.inl rfl)⟩
 case nil=>subst h;exact ⟨rfl,.inr (.inr ⟨rfl,rfl⟩)⟩
 case own i sz xs=>subst h;exact ⟨rfl,.inr (.inr ⟨rfl,rfl⟩)⟩
 case agg vs=>obtain ⟨ds,h1,rfl⟩:=h;exact ⟨rfl,.inl ⟨vs,ds,rfl,h1,rfl⟩⟩
theorem toD_cells {c:V} {d:D} (h:c.toD=some d):(V.d d).cells.length=c.cells.length∧∀ {w:World} {M:Cells} {m:Mp} {x:Value} (i:Nat) (h1:i<c.cells.length) (h2:i<(V.d d).cells.length),RepV w M m c.cells[i] x→RepV w M m (V.d d).cells[i] x:=by
 rcases (toD_one h).2 with ⟨vs,ds,rfl,h1,rfl⟩ | rfl | ⟨e1,e2⟩
 ·obtain ⟨k1,k2⟩:=toDs_spec h1
  refine ⟨by simp [V.cells,k1],fun i h1 h2 hr=>?_⟩
  simp only [V.cells,List.length_map] at h1 h2
  simp only [V.cells,List.getElem_map] at hr ⊢
  exact .d (hr.toD1 (k2 i h1 (by omega)))
 ·exact ⟨rfl,fun i h1 h2 hr=>hr⟩
 ·have e3:(V.d d).cells=[V.d d]:=by rw [cells_d,e2];rfl
  refine ⟨by rw [e1,e3];rfl,fun i h1 h2 hr=>?_⟩
  have hi:i=0:=by rw [e1] at h1;simpa using h1
  subst hi
  have e4:c.cells[0]=c:=by simp only [e1,List.getElem_cons_zero]
  have e5:(V.d d).cells[0]=V.d d:=by simp only [e3,List.getElem_cons_zero]
  rw [e4] at hr;rw [e5]
  exact .d (hr.toD h)
theorem Wk_conv {s s' : Sa} (hrd:s'.rd=s.rd) (hn:s'.n=s.n) (hlp:s'.lp=s.lp) (hts:∀ t,lkT t s'.ts=lkT t s.ts∨∃ d,(lkT t s.ts).toD=some d∧lkT t s'.ts = .d d)
  (hsv:s'.sv=s.sv) (hbx:∀ nm,lookN nm s'.bx=lookN nm s.bx∨∃ c d,lookN nm s.bx=some c∧c.toD=some d∧lookN nm s'.bx=some (.d d)) (how:s'.ow=s.ow) (hvc:s'.vc=s.vc):Wk s s':=by
 intro Mo m as w hR
 have hin:∀ nm c,lookN nm s'.bx=some c→∃ c',lookN nm s.bx=some c':=fun nm c h=>by
  rcases hbx nm with e | ⟨c',d,e,_⟩
  ·exact ⟨c,by rw [← e];exact h⟩
  ·exact ⟨c',e⟩
 have hmut:∀ b o,Mut s'.bx s'.ow m b o→Mut s.bx s.ow m b o:=by
  rintro b o (⟨nm,c,h1,h2⟩ | ⟨i,h1,h2⟩)
  ·obtain ⟨c',h⟩:=hin nm c h1;exact .inl ⟨nm,c',h,h2⟩
  ·exact .inr ⟨i,by rw [← how];exact h1,h2⟩
 have hst:Stab w (Tot Mo s.bx s.ow m) w (Tot Mo s'.bx s'.ow m):=fun b o c hc hm=>⟨hc,fun ht=>hm (ht.imp id (hmut b o))⟩
 refine ⟨m,⟨by rw [hsv];exact hR.len,?_,?_,?_,?_,?_,?_,?_,?_,?_,hR.mo,hR.mks,?_,fun n c hn=>by rw [hvc] at hn;exact ⟨by rw [how];exact (hR.vec n c hn).1,(hR.vec n c hn).2.mono hst rfl rfl (fun _ _ _ _ _ hv=>hv) (fun b c T hc=>⟨c,hc,rfl⟩)⟩⟩,⟨.of_below (Go.RowKit.Below.refl _ _),fun b o _ h=>hmut b o h,fun b _ h=>by rw [hlp] at h;exact h,hrd,by rw [hsv],fun _ _=>⟨rfl,fun _ _=>rfl⟩⟩,by simp only [rdOf,hrd]⟩
 ·intro i hi hi'
  cases i with
  | zero =>
   have h0:=hR.fr 0 (by simp) hi'
   refine ⟨by simp only [List.getElem_cons_zero,hn];exact h0.size,fun t=>?_,h0.def_⟩
   simp only [List.getElem_cons_zero]
   rcases hts t with h | ⟨d,h1,h2⟩
   ·rw [h];exact hst.mono_rep (h0.ts t)
   ·rw [h2];exact .d ((hst.mono_rep (h0.ts t)).toD h1)
  | succ i =>
   have h0:=hR.fr (i+1) (by simpa [hsv] using hi) hi'
   have e:(({ rd:=s'.rd,n:=s'.n,ts:=s'.ts }:Fr)::s'.sv)[i+1]=(({ rd:=s.rd,n:=s.n,ts:=s.ts }:Fr)::s.sv)[i+1]'(by simpa [hsv] using hi):=by simp [hsv]
   rw [e];exact h0.stab hst
 ·intro nm c h
  rcases hbx nm with e | ⟨c',d,e1,e2,e3⟩
  ·obtain ⟨cs,T,hb⟩:=hR.box nm c (by rw [← e];exact h)
   exact ⟨cs,T,hb.heap,hb.size,hb.leafs,fun i hi=>hst.mono_rep (hb.rep i hi)⟩
  ·rw [e3] at h;cases h
   obtain ⟨cs,T,hb⟩:=hR.box nm c' e1
   obtain ⟨k1,k2⟩:=toD_cells e2
   have hm:=(toD_one e2).1
   refine ⟨cs,T,.mk (hb.heap.cells hm) rfl,by rw [hb.size,k1],fun i hi=>hb.leafs i (by rw [← k1];exact hi),fun i hi=>?_⟩
   exact k2 i (by rw [← k1];exact hi) hi (hst.mono_rep (hb.rep i (by rw [← k1];exact hi)))
 ·intro a b c d h1 h2 e
  obtain ⟨b',hb⟩:=hin _ _ h1
  obtain ⟨d',hd⟩:=hin _ _ h2
  exact hR.inj a b' c d' hb hd e
 ·exact fun i hi hn=>hR.oww i (by rw [← how];exact hi) hn
 ·exact fun i hi j hj h1 h2 e=>hR.owx i (by rw [← how];exact hi) j (by rw [← how];exact hj) h1 h2 e
 ·intro i hi hn nm c h
  obtain ⟨c',hc⟩:=hin _ _ h
  exact hR.owb i (by rw [← how];exact hi) hn nm c' hc
 ·intro l q hl
  rw [hlp] at hl;exact hR.lps l q hl
 ·intro l q hl
  rw [hlp] at hl;exact hR.dep l q hl
 ·intro l q l' q' h1 h2 e
  rw [hlp] at h1 h2;exact hR.lpi l q l' q' h1 h2 e
 ·exact fun i hi hn=>hR.owm i (by rw [← how];exact hi) hn
abbrev Cv:=List (Nat×Ty)×List (Name×Ty)
def cvOne (w:Ty) (z:SV):SV:=match asE (some w) z with
 | some (u,x)=>.e u x
 | none=>z
def lkTy (t:Nat):List (Nat×Ty)→Option Ty
 | []=>none
 | (a,w)::l=>if Nat.beq a t then some w else lkTy t l
def convK {κ:Type} (f:κ→Option Ty) (l:List (κ×SV)):List (κ×SV):=l.map fun x=>(x.1,match f x.1 with | some w=>cvOne w x.2 | none=>x.2)
def convY (cv:Cv) (y:Sy):Sy:={ y with ts:=convK (fun t=>lkTy t cv.1) y.ts,bx:=convK (fun n=>lookN n cv.2) y.bx }
theorem cvOne_ok {env:List Val} {w:Ty} {z:SV} {v:V} (h:InstV env z v):∃ v',InstV env (cvOne w z) v' ∧ (v' = v∨∃ d,v.toD=some d∧v' = .d d):=by
 unfold cvOne
 split
 ·rename_i u x he
  obtain ⟨a,h1,h2⟩:=asE_ok he h
  exact ⟨.d (encD u a),by simp only [InstV];exact ⟨a,h1,rfl⟩,.inr ⟨_,h2,rfl⟩⟩
 ·exact ⟨v,h,.inl rfl⟩
theorem convT_ok {env:List Val} {f:Nat→Option Ty}:∀ {l:List (Nat×SV)} {us:List (Nat×V)},InstK env l us→∃ us',InstK env (convK f l) us' ∧ ∀ t,lkT t us' = lkT t us∨∃ d,(lkT t us).toD=some d∧lkT t us' = .d d
 | [],us,h=>by simp only [InstK] at h;subst h;exact ⟨[],rfl,fun t=>.inl rfl⟩
 | (k,z)::l,us,h=>by
  simp only [InstK] at h
  obtain ⟨v,us',rfl,h2,h3⟩:=h
  obtain ⟨us2,e1,e2⟩:=convT_ok (f:=f) h3
  have hv:∃ v',InstV env (match f k with | some w=>cvOne w z | none=>z) v' ∧ (v' = v∨∃ d,v.toD=some d∧v' = .d d):=by
   split
   ·exact cvOne_ok h2
   ·exact ⟨v,h2,.inl rfl⟩
  obtain ⟨v',g1,g2⟩:=hv
  refine ⟨(k,v')::us2,⟨_,_,rfl,g1,e1⟩,fun t=>?_⟩
  simp only [lkT]
  split
  ·rcases g2 with rfl | g2
   ·exact .inl rfl
   ·exact .inr g2
  ·exact e2 t
theorem convB_ok {env:List Val} {f:Name→Option Ty}:∀ {l:List (Name×SV)} {us:List (Name×V)},InstK env l us→∃ us',InstK env (convK f l) us' ∧ ∀ nm,lookN nm us' = lookN nm us∨∃ c d,lookN nm us=some c∧c.toD=some d∧lookN nm us' = some (.d d)
 | [],us,h=>by simp only [InstK] at h;subst h;exact ⟨[],rfl,fun t=>.inl rfl⟩
 | (k,z)::l,us,h=>by
  simp only [InstK] at h
  obtain ⟨v,us',rfl,h2,h3⟩:=h
  obtain ⟨us2,e1,e2⟩:=convB_ok (f:=f) h3
  have hv:∃ v',InstV env (match f k with | some w=>cvOne w z | none=>z) v' ∧ (v' = v∨∃ d,v.toD=some d∧v' = .d d):=by
   split
   ·exact cvOne_ok h2
   ·exact ⟨v,h2,.inl rfl⟩
  obtain ⟨v',g1,g2⟩:=hv
  refine ⟨(k,v')::us2,⟨_,_,rfl,g1,e1⟩,fun t=>?_⟩
  simp only [lookN]
  split
  ·rcases g2 with rfl | ⟨d,g2,rfl⟩
   ·exact .inl rfl
   ·exact .inr ⟨v,d,rfl,g2,rfl⟩
  ·exact e2 t
theorem convY_ok {env:List Val} {cv:Cv} {y:Sy} {s:Sa} (h:Inst env y s):∃ s',Wk s s' ∧ Inst env (convY cv y) s':=by
 obtain ⟨ts',e1,e2⟩:=convT_ok (f:=fun t=>lkTy t cv.1) h.ts
 obtain ⟨bx',g1,g2⟩:=convB_ok (f:=fun n=>lookN n cv.2) h.bx
 exact ⟨{ s with ts:=ts',bx:=bx' },Wk_conv rfl rfl rfl e2 rfl g2 rfl rfl,h.g,h.rd,h.n,e1,h.sv,g1,h.lp,h.ow,h.vc⟩
def prepY (ids:List Name) (cv:Cv) (y:Sy):Sy:=convY cv (stripAll ids y)
theorem prepY_ok {env:List Val} {ids:List Name} {cv:Cv} {y:Sy} {s:Sa} (h:Inst env y s):∃ s',Wk s s' ∧ Inst env (prepY ids cv y) s':=by
 obtain ⟨s1,w1,i1⟩:=stripAll_ok (ids:=ids) h
 obtain ⟨s2,w2,i2⟩:=convY_ok (cv:=cv) i1
 exact ⟨s2,Wk_trans w1 w2,i2⟩
theorem prepY_lp {ids:List Name} {cv:Cv} {y:Sy}:(prepY ids cv y).lp=y.lp:=stripAll_lp
theorem TC_post {P:Program} {p:Name} {c:Code} {s:Sa} {Q:Ex→Sa→Prop} (h:TC P p c s (fun e s'=>∃ s'',Wk s' s'' ∧ Q e s'')):TC P p c s Q:=fun Mo m a sv w n hR =>
 wpIn_mono (h Mo m a sv w n hR) (fun e a' w' ⟨x,m',s',h1,⟨s'',hw,hq⟩,h3,h4,h5,h6⟩=>by
  obtain ⟨m2,g1,g2,g3⟩:=hw Mo m' _ w' h3
  exact ⟨x,m2,s'',h1,hq,g1,h4.trans g2,g3.trans h5,h6⟩)
structure Leaf where
 e:Ex
 v:SV
 s:Sy
def sameEx:Ex→Ex→Bool
 | .norm,.norm=>true
 | .ret,.ret=>true
 | .exit i,.exit j=>Nat.beq i j
 | .thr i,.thr j=>Nat.beq i j
 | _,_=>false
theorem sameEx_eq {a b:Ex} (h:sameEx a b=true):a=b:=by
 unfold sameEx at h
 split at h <;> first | rfl | (rw [Nat.eq_of_beq_eq_true h]) | cases h
def sigma (n0:Nat) (ids:List Name) (cv:Cv) (yJ:Sy) (rep:Leaf):List Leaf→List (List E)→Nat→Option (List T×List Leaf)
 | [],_,_=>some ([],[])
 | lf::L,as,k=>if sameEx lf.e rep.e&&lpB lf.s.lp rep.s.lp then (match as with
   | a::as=>if fitsY n0 a (prepY ids cv lf.s) yJ then (sigma n0 ids cv yJ rep L as k).map fun r=>(.jump 0 a::r.1,r.2) else none
   | []=>none)
  else (sigma n0 ids cv yJ rep L as (k+1)).map fun r=>(.hole k::r.1,lf::r.2)
def glue (n0:Nat) (ids:List Name) (cv:Cv) (yJ:Sy) (ps:List Ty) (rep:Leaf) (as:List (List E)) (t:T) (L:List Leaf):Option (T×List Leaf) :=
 match sigma n0 ids cv yJ rep L as 1 with
 | some (ts,os)=>some (.letj ps (.hole 0) ((t.lift 0).sub fun i=>ts.getD i .fail),⟨rep.e,.dead,yJ⟩::os)
 | none=>none
def LQ (L:List Leaf) (Q:Leaf→List Val→Prop):Nat→List Val→Prop:=fun i env=>∃ lf,L[i]? = some lf∧Q lf env
abbrev noJ:Jt:=fun _ _=>False
theorem sigma_ok {n0:Nat} {ids:List Name} {cv:Cv} {yJ:Sy} {rep:Leaf}:∀ {L:List Leaf} {as:List (List E)} {k:Nat} {ts:List T} {os:List Leaf},sigma n0 ids cv yJ rep L as k=some (ts,os)→∀ {i:Nat} {lf:Leaf},L[i]? = some lf →
  (∃ a,ts[i]? = some (.jump 0 a)∧lf.e=rep.e∧fitsY n0 a (prepY ids cv lf.s) yJ=true)∨(∃ j,ts[i]? = some (.hole (k+j))∧os[j]? = some lf)
 | [],as,k,ts,os,h,i,lf,hl=>by simp at hl
 | x::L,as,k,ts,os,h,i,lf,hl=>by
  simp only [sigma] at h
  split at h
  ·rename_i hs
   simp only [Bool.and_eq_true] at hs
   split at h
   ·rename_i a as'
    split at h
    ·rename_i hf
     obtain ⟨⟨ts',os'⟩,h1,h2⟩:=Option.map_eq_some_iff.1 h
     cases h2
     cases i with
     | zero=>simp at hl;subst hl;exact .inl ⟨a,by simp,sameEx_eq hs.1,hf⟩
     | succ i=>simpa using sigma_ok h1 (by simpa using hl)
    ·cases h
   ·cases h
  ·obtain ⟨⟨ts',os'⟩,h1,h2⟩:=Option.map_eq_some_iff.1 h
   cases h2
   cases i with
   | zero=>simp at hl;subst hl;exact .inr ⟨0,by simp,by simp⟩
   | succ i =>
    rcases sigma_ok h1 (i:=i) (lf:=lf) (by simpa using hl) with ⟨a,g1,g2,g3⟩ | ⟨j,g1,g2⟩
    ·exact .inl ⟨a,by simpa using g1,g2,g3⟩
    ·exact .inr ⟨j+1,by simpa [Nat.add_assoc,Nat.add_comm 1 j] using g1,by simpa using g2⟩
theorem sigma_mem {n0:Nat} {ids:List Name} {cv:Cv} {yJ:Sy} {rep:Leaf}:∀ {L:List Leaf} {as:List (List E)} {k:Nat} {ts:List T} {os:List Leaf},sigma n0 ids cv yJ rep L as k=some (ts,os)→∀ lf∈os,lf∈L
 | [],as,k,ts,os,h=>by cases h;simp
 | x::L,as,k,ts,os,h=>by
  simp only [sigma] at h
  split at h
  ·split at h
   ·split at h
    ·obtain ⟨⟨ts',os'⟩,h1,h2⟩:=Option.map_eq_some_iff.1 h
     cases h2
     exact fun lf hl=>List.mem_cons_of_mem _ (sigma_mem h1 lf hl)
    ·cases h
   ·cases h
  ·obtain ⟨⟨ts',os'⟩,h1,h2⟩:=Option.map_eq_some_iff.1 h
   cases h2
   intro lf hl
   rcases List.mem_cons.1 hl with rfl | hl
   ·exact List.mem_cons_self
   ·exact List.mem_cons_of_mem _ (sigma_mem h1 lf hl)
theorem glue_ok {CS:Calls'} (hCS:CallsWf CS) {n0:Nat} {ids:List Name} {cv:Cv} {yJ:Sy} {ps:List Ty} {rep:Leaf} {as:List (List E)} {t t' : T} {L L' : List Leaf} {env:List Val} {Q:Leaf→List Val→Prop} (h:glue n0 ids cv yJ ps rep as t L=some (t',L')) (hn:env.length=n0) (hw:EnvWf env)
  (hgJ:yJ.g=env.map (·.1)++ps) (hlp:∀ lf∈L,lpS lf.s.lp=lpS yJ.lp) {R:Ex→Sa→Prop} (hs:t'.sat CS noJ (LQ L' fun lf e=>∀ s',Inst e lf.s s' → R lf.e s') env) :
  t.sat CS noJ (LQ L fun lf e=>∀ s',Inst e lf.s s' → ∃ s'',Wk s' s'' ∧ R lf.e s'') env:=by
 unfold glue at h
 split at h
 ·rename_i ts os hsg
  cases h
  simp only [T.sat] at hs
  rw [T.sat_sub,T.sat_lift,cut_zero] at hs
  have hs2:=T.sat_ext hCS hw hs
  refine T.sat_mono (fun _ _ h=>h.2) ?_ hs2
  rintro i e ⟨⟨l,rfl⟩,he,hq⟩
  cases hts:ts[i]? with
  | none=>simp [List.getD_eq_getElem?_getD,hts,T.sat] at hq
  | some tt =>
   simp only [List.getD_eq_getElem?_getD,hts,Option.getD_some] at hq
   have hlen:∀ {L:List Leaf} {as:List (List E)} {k:Nat} {ts:List T} {os:List Leaf},sigma n0 ids cv yJ rep L as k=some (ts,os)→ts.length=L.length:=by
    intro L
    induction L with
    | nil=>intro as k ts os h;cases h;rfl
    | cons x L ih =>
     intro as k ts os h
     simp only [sigma] at h
     split at h
     ·split at h
      ·split at h
       ·obtain ⟨⟨ts',os'⟩,h1,h2⟩:=Option.map_eq_some_iff.1 h
        cases h2;simp [ih h1]
       ·cases h
      ·cases h
     ·obtain ⟨⟨ts',os'⟩,h1,h2⟩:=Option.map_eq_some_iff.1 h
      cases h2;simp [ih h1]
   have hi:i<L.length:=by rw [← hlen hsg];exact (List.getElem?_eq_some_iff.1 hts).1
   refine ⟨L[i],List.getElem?_eq_getElem hi,?_⟩
   rcases sigma_ok hsg (List.getElem?_eq_getElem hi) with ⟨a,g1,g2,g3⟩ | ⟨j,g1,g2⟩
   ·rw [hts] at g1
    cases g1
    simp only [T.sat] at hq
    obtain ⟨vs,hv,hvs,lf,hlf,hR⟩:=hq
    simp only [List.getElem?_cons_zero,Option.some.injEq] at hlf
    subst hlf
    intro s' hI
    obtain ⟨s1,w1,i1⟩:=prepY_ok (ids:=ids) (cv:=cv) hI
    obtain ⟨s2,w2,i2⟩:=fitsY_ok (by rw [hn];exact g3) (by rw [prepY_lp];exact hlp _ (List.getElem_mem hi)) i1 hv (by rw [List.map_append,hvs,hgJ])
    refine ⟨s2,Wk_trans w1 w2,?_⟩
    rw [g2]
    exact hR s2 i2
   ·rw [hts] at g1
    cases g1
    simp only [T.sat] at hq
    obtain ⟨lf,hlf,hR⟩:=hq
    rw [Nat.add_comm 1 j,List.getElem?_cons_succ,g2] at hlf
    cases hlf
    exact fun s' hI=>⟨s',Wk.refl,hR s' hI⟩
 ·cases h
end Go.Tx
namespace Go.Tx
open Go Go.Ab
def Sy.claimCell (y:Sy) (n:Name) (off:Nat) (w:Ty):Sy:=match lookN n y.bx with
 | some (.mix t x os zs)=>match patchAt off os zs with
  | some .nil=>{ y.strip (off::424242::n) with ow:=(off::424242::n)::(y.strip (off::424242::n)).ow,bx:=Ab.setN n (.mix t x (off::(keepP off 1 os (SV.stripL (off::424242::n) zs)).1) (.own (off::424242::n) w.size w (.zero (.sl w))::(keepP off 1 os (SV.stripL (off::424242::n) zs)).2)) (y.strip (off::424242::n)).bx }
  | _=>y
 | _=>y
section
variable {env:List Val} {y:Sy} {s:Sa}
theorem over_one {c:List V} {v:V} {off:Nat} (h:off<c.length):over c [v] off=c.set off v:=by
 rw [List.set_eq_take_append_cons_drop,if_pos h]
 simp [over]
theorem Inst.claimCell (hI:Inst env y s) (n:Name) (off:Nat) (w:Ty):∃ s',Wk s s' ∧ Inst env (y.claimCell n off w) s':=by
 unfold Sy.claimCell
 split
 ·rename_i t x os zs hl
  split
  ·rename_i hp
   obtain ⟨v,h1,h2⟩:=(hI.bx.look).1 hl
   have h2s:=InstV.strip (off::424242::n) h2
   simp only [InstV] at h2
   obtain ⟨a,c,g1,rfl,g3,g4,g5⟩:=h2
   obtain ⟨u,k1,k2⟩:=(patchAt_ok g4).1 _ hp
   simp only [InstV] at k2
   subst k2
   refine ⟨_,Wk_claimCell (i:=off::424242::n) (sz:=w.size) h1 k1,?_⟩
   have hs:=hI.strip (off::424242::n)
   simp only [SV.strip,V.strip,InstV] at h2s
   obtain ⟨a',c',e1,e2,e3,e4,e5⟩:=h2s
   cases e2
   have hoff:off<(V.stripL (off::424242::n) c).length:=by
    have:(V.stripL (off::424242::n) c)[off]? = some .nil:=by rw [stripL_get,k1];rfl
    exact (List.getElem?_eq_some_iff.1 this).1
   have hlen:off+[V.own (off::424242::n) w.size []].length≤(V.stripL (off::424242::n) c).length:=hoff
   obtain ⟨q1,q2⟩:=keepP_ok (xs:=[V.own (off::424242::n) w.size []]) e4 hlen
   simp only [List.length_cons,List.length_nil,Nat.zero_add] at q1 q2 hlen
   have hbx:InstK env (Ab.setN n (.mix t x (off::(keepP off 1 os (SV.stripL (off::424242::n) zs)).1) (.own (off::424242::n) w.size w (.zero (.sl w))::(keepP off 1 os (SV.stripL (off::424242::n) zs)).2)) (y.strip (off::424242::n)).bx)
     (Ab.setN n (.agg ((V.stripL (off::424242::n) c).set off (.own (off::424242::n) w.size []))) (s.strip (off::424242::n)).bx):=by
    refine InstK.setN ?_ hs.bx
    rw [← over_one hoff]
    simp only [InstV]
    refine ⟨a',_,e1,rfl,by rw [over_len hlen];exact e3,⟨off,_,rfl,⟨.own (off::424242::n) w.size [],by rw [over_get hlen,if_pos rfl],⟨[],rfl,rfl,rfl⟩⟩,q1⟩,fun i hi hn=>?_⟩
    simp only [List.mem_cons,not_or] at hn
    rw [over_get hlen,if_neg hn.1]
    exact e5 i hi fun hm=>by have:=q2 i hn.2 hm;omega
   refine ⟨hs.g,hs.rd,hs.n,hs.ts,hs.sv,?_,hs.lp,by simp only [Sa.claimCell,hs.ow],hs.vc⟩
   simp only [Sa.claimCell,h1]
   exact hbx
  ·exact ⟨s,Wk.refl,hI⟩
 ·exact ⟨s,Wk.refl,hI⟩
def Sy.claimVec (y:Sy) (n:Name) (off:Nat) (w:Ty):Sy:=match lookN n y.bx with
 | some (.mix t x os zs)=>match patchAt off os zs with
  | some .nil=>{ y.strip (off::424242::n) with ow:=(off::424242::n)::(y.strip (off::424242::n)).ow,vc:=(off::424242::n,(w,.zero (.sl w)))::(y.strip (off::424242::n)).vc,bx:=Ab.setN n (.mix t x (off::(keepP off 1 os (SV.stripL (off::424242::n) zs)).1) (.vsl (off::424242::n)::(keepP off 1 os (SV.stripL (off::424242::n) zs)).2)) (y.strip (off::424242::n)).bx }
  | _=>y
 | _=>y
theorem Inst.claimVec (hI:Inst env y s) (n:Name) (off:Nat) (w:Ty):∃ s',Wk s s' ∧ Inst env (y.claimVec n off w) s':=by
 unfold Sy.claimVec
 split
 ·rename_i t x os zs hl
  split
  ·rename_i hp
   obtain ⟨v,h1,h2⟩:=(hI.bx.look).1 hl
   have h2s:=InstV.strip (off::424242::n) h2
   simp only [InstV] at h2
   obtain ⟨a,c,g1,rfl,g3,g4,g5⟩:=h2
   obtain ⟨u,k1,k2⟩:=(patchAt_ok g4).1 _ hp
   simp only [InstV] at k2
   subst k2
   refine ⟨_,Wk_claimVec (i:=off::424242::n) (sz:=w.size) h1 k1,?_⟩
   have hs:=hI.strip (off::424242::n)
   simp only [SV.strip,V.strip,InstV] at h2s
   obtain ⟨a',c',e1,e2,e3,e4,e5⟩:=h2s
   cases e2
   have hoff:off<(V.stripL (off::424242::n) c).length:=by
    have:(V.stripL (off::424242::n) c)[off]? = some .nil:=by rw [stripL_get,k1];rfl
    exact (List.getElem?_eq_some_iff.1 this).1
   have hlen:off+[V.vsl (off::424242::n)].length≤(V.stripL (off::424242::n) c).length:=hoff
   obtain ⟨q1,q2⟩:=keepP_ok (xs:=[V.vsl (off::424242::n)]) e4 hlen
   simp only [List.length_cons,List.length_nil,Nat.zero_add] at q1 q2 hlen
   have hbx:InstK env (Ab.setN n (.mix t x (off::(keepP off 1 os (SV.stripL (off::424242::n) zs)).1) (.vsl (off::424242::n)::(keepP off 1 os (SV.stripL (off::424242::n) zs)).2)) (y.strip (off::424242::n)).bx)
     (Ab.setN n (.agg ((V.stripL (off::424242::n) c).set off (.vsl (off::424242::n)))) (s.strip (off::424242::n)).bx):=by
    refine InstK.setN ?_ hs.bx
    rw [← over_one hoff]
    simp only [InstV]
    refine ⟨a',_,e1,rfl,by rw [over_len hlen];exact e3,⟨off,_,rfl,⟨.vsl (off::424242::n),by rw [over_get hlen,if_pos rfl],rfl⟩,q1⟩,fun i hi hn=>?_⟩
    simp only [List.mem_cons,not_or] at hn
    rw [over_get hlen,if_neg hn.1]
    exact e5 i hi fun hm=>by have:=q2 i hn.2 hm;omega
   refine ⟨hs.g,hs.rd,hs.n,hs.ts,hs.sv,?_,hs.lp,by simp only [Sa.claimVec,hs.ow],⟨[],_,rfl,rfl,hs.vc⟩⟩
   simp only [Sa.claimVec,h1]
   exact hbx
  ·exact ⟨s,Wk.refl,hI⟩
 ·exact ⟨s,Wk.refl,hI⟩
theorem claimVec_lp {n:Name} {off:Nat} {w:Ty}:(y.claimVec n off w).lp=y.lp:=by
 unfold Sy.claimVec
 split
 ·split <;> rfl
 ·rfl
theorem claimCell_lp {n:Name} {off:Nat} {w:Ty}:(y.claimCell n off w).lp=y.lp:=by
 unfold Sy.claimCell
 split
 ·split <;> rfl
 ·rfl
def claimAll (l:List (Name×Nat×Ty×Bool)) (y:Sy):Sy:=l.foldl (fun y x=>if x.2.2.2 then y.claimVec x.1 x.2.1 x.2.2.1 else y.claimCell x.1 x.2.1 x.2.2.1) y
theorem claimAll_ok:∀ {l:List (Name×Nat×Ty×Bool)} {y:Sy} {s:Sa},Inst env y s→∃ s',Wk s s' ∧ Inst env (claimAll l y) s'
 | [],y,s,h=>⟨s,Wk.refl,h⟩
 | x::l,y,s,h=>by
  have h1:∃ s',Wk s s' ∧ Inst env (if x.2.2.2 then y.claimVec x.1 x.2.1 x.2.2.1 else y.claimCell x.1 x.2.1 x.2.2.1) s':=by
   split
   ·exact h.claimVec _ _ _
   ·exact h.claimCell _ _ _
  obtain ⟨s1,w1,i1⟩:=h1
  obtain ⟨s2,w2,i2⟩:=claimAll_ok (l:=l) i1
  exact ⟨s2,Wk_trans w1 w2,i2⟩
theorem claimAll_lp:∀ {l:List (Name×Nat×Ty×Bool)} {y:Sy},(claimAll l y).lp=y.lp
 | [],y=>rfl
 | x::l,y=>(claimAll_lp (l:=l)).trans (by
  show (if x.2.2.2 then y.claimVec x.1 x.2.1 x.2.2.1 else y.claimCell x.1 x.2.1 x.2.2.1).lp=_
  split
  ·exact claimVec_lp
  ·exact claimCell_lp)
def insP (o:Nat) (z:SV):List Nat→List SV→List Nat×List SV
 | a::os,b::zs=>if Nat.blt o a then (o::a::os,z::b::zs) else (a::(insP o z os zs).1,b::(insP o z os zs).2)
 | _,_=>([o],[z])
def sortP:List Nat→List SV→List Nat×List SV
 | o::os,z::zs=>insP o z (sortP os zs).1 (sortP os zs).2
 | _,_=>([],[])
def SV.norm:SV→SV
 | .mix t x os zs=>.mix t x (sortP os zs).1 (sortP os zs).2
 | z=>z
theorem insP_ok {o:Nat} {z:SV} {c:List V} (hz:∃ v,c[o]? = some v∧InstV env z v):∀ {zs:List SV} {os:List Nat},InstP env os zs c→InstP env (insP o z os zs).1 (insP o z os zs).2 c∧(o∈(insP o z os zs).1∧∀ i∈os,i∈(insP o z os zs).1)
 | [],os,h=>by
  simp only [InstP] at h;subst h
  exact ⟨⟨o,[],rfl,hz,rfl⟩,by simp [insP],by simp⟩
 | b::zs,os,h=>by
  simp only [InstP] at h
  obtain ⟨a,os',rfl,h2,h3⟩:=h
  simp only [insP]
  split
  ·exact ⟨⟨o,_,rfl,hz,⟨a,_,rfl,h2,h3⟩⟩,List.mem_cons_self,fun i hi=>List.mem_cons_of_mem _ hi⟩
  ·obtain ⟨g1,g2,g3⟩:=insP_ok hz h3
   refine ⟨⟨a,_,rfl,h2,g1⟩,List.mem_cons_of_mem _ g2,fun i hi=>?_⟩
   rcases List.mem_cons.1 hi with e | hi
   ·rw [e];exact List.mem_cons_self
   ·exact List.mem_cons_of_mem _ (g3 i hi)
theorem sortP_ok {c:List V}:∀ {zs:List SV} {os:List Nat},InstP env os zs c→InstP env (sortP os zs).1 (sortP os zs).2 c∧∀ i∈os,i∈(sortP os zs).1
 | [],os,h=>by simp only [InstP] at h;subst h;exact ⟨rfl,by simp⟩
 | b::zs,os,h=>by
  simp only [InstP] at h
  obtain ⟨a,os',rfl,h2,h3⟩:=h
  obtain ⟨g1,g2⟩:=sortP_ok h3
  obtain ⟨k1,k2,k3⟩:=insP_ok h2 g1
  refine ⟨k1,fun i hi=>?_⟩
  rcases List.mem_cons.1 hi with e | hi
  ·rw [e];exact k2
  ·exact k3 i (g2 i hi)
theorem InstV.norm {x:SV} {v:V} (h:InstV env x v):InstV env x.norm v:=by
 cases x with
 | mix t x os zs =>
  simp only [InstV] at h
  obtain ⟨a,c,g1,rfl,g3,g4,g5⟩:=h
  obtain ⟨k1,k2⟩:=sortP_ok g4
  simp only [SV.norm,InstV]
  exact ⟨a,c,g1,rfl,g3,k1,fun i hi hn=>g5 i hi fun hm=>hn (k2 i hm)⟩
 | _=>exact h
theorem InstK.normK {κ:Type}:∀ {xs:List (κ×SV)} {vs:List (κ×V)},InstK env xs vs→InstK env (xs.map fun x=>(x.1,x.2.norm)) vs
 | [],vs,h=>h
 | (k,x)::xs,vs,h=>by
  simp only [InstK] at h
  obtain ⟨v,vs',rfl,h2,h3⟩:=h
  exact ⟨v,vs',rfl,h2.norm,h3.normK⟩
end
end Go.Tx
namespace Go.Tx
open Go Go.Ab
structure HandC where
 r0:Code
 id:Nat
 o1:Oper
 o2:Oper
 rest:Code
 d:Tmp
 cl:Call
 caps:Array Operand
 g:FuncId
 H:HandI
structure HandAt (P:Program) (f:FuncId) (K:HandC):Prop where
 body:∃ fn,P.funcs[f]? = some fn∧fn.body=some (.seq K.r0 (.seq (.region K.id #[K.o1,K.o2] false) K.rest))
 o1:OpIs K.o1 (.makeFunc (.func K.g) #[] K.caps) (some K.d)
 o2:OpIs K.o2 (.defer K.cl) none
 cl:K.cl.callee = .value (.tmp K.d)∧K.cl.args = #[]
 ok:HandOK P K.g K.H
inductive Spec where
 | hand (K:HandC)
 | clo (ts te:TypeId)
 | ins (ts te ti:TypeId)
 | turn (g:Nat) (w:Ty) (as:List Ty) (rty:Ty)
 | del (te:TypeId)
 | vec
def SpecOK (P:Program) (f:FuncId):Spec→Prop
 | .hand K=>HandAt P f K
 | .clo ts te=>CloOK P f ts te
 | .ins ts te ti=>InsOK P f ts te ti
 | .turn g _ _ _=>g=f
 | .del te=>DelOK P f te
 | .vec=>True
def SpOK (P:Program) (sp:FuncId→Option Spec):Prop:=∀ f x,sp f=some x→SpecOK P f x
theorem SpOK.none {P:Program}:SpOK P (fun _=>Option.none):=fun _ _ h=>by cases h
def Sy.vturn (y:Sy) (n:Name) (w:Ty):Sy:={ ((y.strip n).more [.sl w]) with ow:=n::(y.strip n).ow,vc:=(n,(w,.var y.g.length))::(y.strip n).vc }
def spCall (P:Program) (nm:Name) (sp:Spec) (args:List SV) (y:Sy):Option (Bs×Sy×SV) :=
 match sp with
 | .clo ts te=>match args with
  | [z]=>match asS (tyD P ts) z with
   | some (w,ye)=>if w.size=tsz P te∧tbytes P te≠0 then some ([(.r2 (.app (tbytes P te)) (.zero (.sl w)) ye,.sl w)],y.vturn nm w,.vsl nm) else none
   | none=>none
  | _=>none
 | .ins ts te ti=>match args with
  | [.vsl n,iz,z]=>match lookN n y.vc,asI iz,asS (tyD P ts) z with
   | some (w',l),some (q,i),some (w,ye)=>if q = .i64∧w=w' ∧ w.size=tsz P te∧tbytes P te≠0 then some ([(.r3 (.ins (tbytes P te)) l i ye,.sl w)],y.vturn n w,.vsl n) else none
   | _,_,_=>none
  | _=>none
 | .turn g w as rty=>match args with
  | .vsl n::zs=>match lookN n y.vc,argsE as zs with
   | some (u,q),some es=>if u=w∧resOK rty=true then some ([(.call (g+1000000) (q::es),.prod (.sl w) rty)],{ y.more [.prod (.sl w) rty] with vc:=Ab.setN n (w,.p1 .fst (.var y.g.length)) y.vc },resS rty (.p1 .snd (.var y.g.length))) else none
   | _,_=>none
  | _=>none
 | .vec=>none
 | .hand _=>none
 | .del te=>match args with
  | [.vsl n,iz,jz]=>match lookN n y.vc,asI iz,asI jz with
   | some (w,l),some (q,i),some (r,j)=>if q = .i64∧r = .i64∧w.size=1 then some ([(.r3 .del l i j,.sl w)],y.vturn n w,.vsl n) else none
   | _,_,_=>none
  | _=>none
section
variable {P:Program} {S:Sems} {CS:Calls'} {env:List Val} {y:Sy} {s:Sa} {p:Name}
theorem toD_sliceOf {v:V} {xs:List D} (h:sliceOf v=some xs):v.toD=some (.sl xs):=by
 unfold sliceOf at h
 split at h <;> first | (cases h;rfl) | cases h
theorem Inst.vturn (hI:Inst env y s) (n:Name) (w:Ty) (a:List w.den) (sz:Nat) (hw:w.size=sz):Inst (env++[⟨.sl w,a⟩]) (y.vturn n w) (s.vturn n sz (a.map (encD w))):=by
 have h4:=(hI.strip n).snoc (⟨.sl w,a⟩:Val)
 exact ⟨h4.g,h4.rd,h4.n,h4.ts,h4.sv,h4.bx,h4.lp,by have:=h4.ow;simp only [Sy.more] at this;simp only [Sy.vturn,Sa.vturn,Sy.more,this],⟨a,_,by rw [← hw];rfl,by rw [← hI.len];exact var_last rfl,h4.vc⟩⟩
theorem spCall_ok {g:FuncId} {sp:Spec} {args:List SV} {nm:Name} {bs:Bs} {y1:Sy} {z1:SV} {vs:List V} {k:V→Sa→Prop} (hs:SpecOK P g sp) (h:spCall P nm sp args y=some (bs,y1,z1)) (hI:Inst env y s) (hargs:InstL env args vs)
  (hb:okBs (CallV P) bs env fun e=>∀ s' v,Inst e y1 s' → InstV e z1 v→k v s'):TCall P p g vs s k:=by
 cases sp with
 | vec=>simp [spCall] at h
 | hand K=>simp [spCall] at h
 | del te =>
  simp only [spCall] at h
  split at h
  ·rename_i n iz jz
   split at h
   ·rename_i w l q i r j hl hi hj
    split at h
    ·rename_i hc
     obtain ⟨c0,c1,c2⟩:=hc
     subst c0;subst c1
     cases h
     simp only [InstL] at hargs
     obtain ⟨v1,vs',rfl,h1,v2,vs'',rfl,h2,v3,vs3,rfl,h3,rfl⟩:=hargs
     simp only [InstV] at h1
     subst h1
     obtain ⟨al,e1,e2⟩:=(hI.vc.look).1 hl
     obtain ⟨ii,i1,rfl⟩:=asI_ok hi h2
     obtain ⟨jj,j1,rfl⟩:=asI_ok hj h3
     obtain ⟨r,r1,r2,r3⟩:=ok_last hI.len hb
     obtain ⟨a',b',d',rr,cc,x1,x2,x3,x4,x5,x6⟩:=r1
     rw [e1] at x1;cases x1
     rw [i1] at x2;cases x2
     rw [j1] at x3;cases x3
     simp only [rel3,Option.some.injEq] at x4
     subst x4
     simp only at x5
     split at x5
     ·rename_i hle
      cases x5;cases x6
      obtain ⟨g1,g2,g3⟩:=hle
      rw [c2] at e2
      refine TCall_del hs e2 g1 g2 (by rw [List.length_map];exact g3) ?_
      have h5:=hI.vturn n w (al.take ii.toNat++al.drop jj.toNat) 1 c2
      rw [List.map_append,List.map_take,List.map_drop] at h5
      exact r2 _ _ h5 rfl
     ·cases x5
    ·cases h
   ·cases h
  ·cases h
 | turn g' w as rty =>
  simp only [spCall] at h
  split at h
  ·rename_i n zs
   split at h
   ·rename_i u q es hl hes
    split at h
    ·rename_i hc
     obtain ⟨rfl,hro⟩:=hc
     cases h
     simp only [SpecOK] at hs
     subst hs
     simp only [InstL] at hargs
     obtain ⟨v1,vs',rfl,h1,h2⟩:=hargs
     simp only [InstV] at h1
     subst h1
     obtain ⟨al,e1,e2⟩:=(hI.vc.look).1 hl
     obtain ⟨us,e3,e4,e5⟩:=argsE_ok hes h2
     obtain ⟨r,r1,r2,r3⟩:=ok_last hI.len hb
     obtain ⟨vs2,x1,x2⟩:=r1
     simp only [evs,e1,e3,Option.some.injEq] at x1
     subst x1
     obtain ⟨w',xs,us',rty',ys,r',e6,e7,hT⟩:=callV_far rfl x2
     cases e6;cases e7
     have hf:(E.p1 .fst (.var y.g.length)).val (env++[(⟨.prod (.sl u) rty,(ys,r')⟩:Val)])=some ⟨.sl u,ys⟩:=by show app1 .fst ((E.var y.g.length).val _)=_;rw [r3];rfl
     have hsn:(E.p1 .snd (.var y.g.length)).val (env++[(⟨.prod (.sl u) rty,(ys,r')⟩:Val)])=some ⟨rty,r'⟩:=by show app1 .snd ((E.var y.g.length).val _)=_;rw [r3];rfl
     refine TCall_turn hT e2 e5 (r2 _ _ ?_ (resS_ok hro hsn))
     have h4:=hI.snoc (⟨.prod (.sl u) rty,(ys,r')⟩:Val)
     exact ⟨h4.g,h4.rd,h4.n,h4.ts,h4.sv,h4.bx,h4.lp,h4.ow,InstC.set hf h4.vc⟩
    ·cases h
   ·cases h
  ·cases h
 | clo ts te =>
  simp only [spCall] at h
  split at h
  ·rename_i z
   split at h
   ·rename_i w ye has
    split at h
    ·rename_i hc
     obtain ⟨c1,c2⟩:=hc
     cases h
     simp only [InstL] at hargs
     obtain ⟨v,vs',rfl,h1,rfl⟩:=hargs
     obtain ⟨ys,f1,f2⟩:=asS_ok has h1
     obtain ⟨r,r1,r2,r3⟩:=ok_last hI.len hb
     obtain ⟨a',b',rr,cc,x1,x2,x3,x4,x5⟩:=r1
     have e1:(E.zero (.sl w)).val env=some ⟨.sl w,[]⟩:=rfl
     rw [e1] at x1;cases x1
     rw [f1] at x2;cases x2
     simp only [rel2,dif_pos,if_pos c2,Option.some.injEq] at x3
     subst x3
     simp only at x4
     split at x4
     ·rename_i hle
      cases x4;cases x5
      simp only [List.length_nil,Nat.zero_add] at hle
      have hall:∀ d∈ys.map (encD w),d.cells.length=tsz P te:=fun d hd=>by
       obtain ⟨q,_,rfl⟩:=List.mem_map.1 hd
       rw [encD_cells,enc_len];exact c1
      have hlen:ys.length≤9223372036854775807:=by
       have:=Nat.le_mul_of_pos_right ys.length (Nat.pos_of_ne_zero c2)
       omega
      have hm:=CloOK.make (xs:=ys.map (encD w)) hs hall (by rw [List.length_map];exact hle) (by rw [List.length_map];exact hlen)
      refine hm p [v] s nm k (by simp only [toDs,toD_sliceOf f2]) ?_
      have h5:=hI.vturn nm w ([]++ys) (tsz P te) c1
      exact r2 _ _ h5 rfl
     ·cases x4
    ·cases h
   ·cases h
  ·cases h
 | ins ts te ti =>
  simp only [spCall] at h
  split at h
  ·rename_i n iz z
   split at h
   ·rename_i w' l q i w ye hl hi has
    split at h
    ·rename_i hc
     obtain ⟨c0,c1,c2,c3⟩:=hc
     subst c0;subst c1
     cases h
     simp only [InstL] at hargs
     obtain ⟨v1,vs',rfl,h1,v2,vs'',rfl,h2,v3,vs3,rfl,h3,rfl⟩:=hargs
     simp only [InstV] at h1
     subst h1
     obtain ⟨al,e1,e2⟩:=(hI.vc.look).1 hl
     obtain ⟨ii,i1,rfl⟩:=asI_ok hi h2
     obtain ⟨ys,f1,f2⟩:=asS_ok has h3
     obtain ⟨r,r1,r2,r3⟩:=ok_last hI.len hb
     obtain ⟨a',b',d',rr,cc,x1,x2,x3,x4,x5,x6⟩:=r1
     rw [e1] at x1;cases x1
     rw [i1] at x2;cases x2
     rw [f1] at x3;cases x3
     simp only [rel3,dif_pos,if_pos c3,Option.some.injEq] at x4
     subst x4
     simp only at x5
     split at x5
     ·rename_i hle
      cases x5;cases x6
      obtain ⟨g1,g2,g3⟩:=hle
      have hall:∀ d∈ys.map (encD w),d.cells.length=tsz P te:=fun d hd=>by
       obtain ⟨q,_,rfl⟩:=List.mem_map.1 hd
       rw [encD_cells,enc_len];exact c2
      have hlen:al.length+ys.length≤9223372036854775807:=by
       have:=Nat.le_mul_of_pos_right (al.length+ys.length) (Nat.pos_of_ne_zero c3)
       omega
      refine TCall_ins hs (by rw [e2,c2]) g1 (by rw [List.length_map];exact g2) (toD_sliceOf f2) hall (by rw [List.length_map,List.length_map];exact g3) (by rw [List.length_map,List.length_map];exact hlen) ?_
      have h5:=hI.vturn n w (al.take ii.toNat++ys++al.drop ii.toNat) (tsz P te) c2
      rw [List.map_append,List.map_append,List.map_take,List.map_drop] at h5
      exact r2 _ _ h5 rfl
     ·cases x5
    ·cases h
   ·cases h
  ·cases h
end
end Go.Tx
namespace Go.Tx
open Go Go.Ab
section
variable {env:List Val}
end
end Go.Tx
