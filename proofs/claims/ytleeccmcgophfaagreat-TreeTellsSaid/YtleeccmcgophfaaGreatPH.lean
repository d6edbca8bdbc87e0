import Derived.Test.YtleeccmcgophfaaGreatPG
import Derived.Test.YtleeccmcgophfaaGreatPC
import Derived.Test.YtleeccmcgophfaaGreatPD
import Derived.Test.YtleeccmcgophfaaGreatPE
set_option linter.all false
namespace Go.Tx
set_option linter.unusedVariables false
set_option linter.unusedSimpArgs false
open Go Go.Ab
def isScal : Ty → Bool
 | .int _ | .bool | .str | .cst _=>true
 | _=>false
def appendS (P : Program) (p : Name) (y : Sy) (dst : Option Tmp) (t u : TypeId) (a b : SV) : Option (Bs × Sy) :=
 match telem P t with
 | some e=>match asS (tyD P u) b with
  | some (w,ye)=>if telem P u = some e ∧ tsz P e ≠ 0 ∧ isCells (tzero P e) = true ∧ (tzero P e).cells.length = tsz P e ∧ w.size = tsz P e ∧ tbytes P e ≠ 0 then
    (match a with
    | .own i sz w' xe=>if y.ow.contains i = true ∧ sz = tsz P e ∧ w = w' then
      some ([(.r2 (.app (tbytes P e)) xe ye,.sl w)],({ ((y.strip i).more [.sl w]) with ow:=i :: (y.strip i).ow } : Sy).put dst (.own i sz w (.var y.g.length))) else none
    | .nil=>some ([(.r2 (.app (tbytes P e)) (.zero (.sl w)) ye,.sl w)],({ ((y.strip (dst.getD 0 :: p)).more [.sl w]) with ow:=(dst.getD 0 :: p) :: (y.strip (dst.getD 0 :: p)).ow } : Sy).put dst (.own (dst.getD 0 :: p) (tsz P e) w (.var y.g.length)))
    | _=>none) else none
  | none=>none
 | none=>none
def stOp (P : Program) (p : Name) (y : Sy) (o : Oper) : Option (Bs × Sy) :=
 let d:=o.dst.getD 0
 match o.op with
 | .assign x=>match y.get x with
  | some v=>match y.claim (d :: p) (esz P o.type) (etD P o.type) v with
   | some (v',y')=>some ([],y'.put o.dst v')
   | none=>none
  | none=>none
 | .alloc t=>match zeroSV P t with
  | some z=>if sizeS z = some (tsz P t) then newS y d p o.dst (esz P t) (etD P t) z else none
  | none=>none
 | .box t x=>match y.get x with
  | some v=>if (sizeS (coeS (tyD P t) v)).isSome = true then newS y d p o.dst (esz P t) (etD P t) (coeS (tyD P t) v) else none
  | none=>none
 | .store t a x=>match y.get a,y.get x with
  | some (.ptr n off),some v=>storeP P y o.dst t n off (coeS (tyD P t) v)
  | some (.aptr n off m u i inn),some v=>storeA P y o.dst t n off m u i inn (coeS (tyD P t) v)
  | _,_=>none
 | .buildSlice t 0 parts=>match telem P t with
  | some e=>if tsz P e ≠ 0 ∧ isCells (tzero P e) = true ∧ parts = #[] then (match y.claim (d :: p) (some (tsz P e)) (tyD P e) .nil with
   | some (v',y')=>some ([],y'.put o.dst v')
   | none=>none) else none
  | none=>none
 | .makeMap t none=>match tmapk P t,tmape P t with
  | some kd,some et=>match tyD P et with
   | some w=>if y.refs (d :: p) = false ∧ isNone' (lookN (d :: p) y.bx) = true then some ([],({ y with bx:=(d :: p,.mpc kd w (.zero (.mp kd w))) :: y.bx } : Sy).put o.dst (.mref (d :: p))) else none
   | none=>none
  | _,_=>none
 | .mapUpdate t m ky x=>match tmapk P t,y.get m,y.get ky,y.get x with
  | some kd,some (.mref n),some (.e (.int kd2) a),some (.e w c)=>match lookN n y.bx with
   | some (.mpc kd' u l)=>if kd' = kd ∧ kd2 = kd ∧ w = u ∧ isScal w = true then
     some ([],({ y with bx:=setN n (.mpc kd u (.p2 .mput l (.p2 .pair a c))) y.bx } : Sy).put o.dst .dead) else none
   | _=>none
  | _,_,_,_=>none
 | .call c=>match c.callee with
  | .builtin .append=>match c.args.toList,c.argTypes.toList with
   | [x,z],t :: u :: _=>match y.get x,y.get z with
    | some a,some b=>appendS P p y o.dst t u a b
    | _,_=>none
   | _,_=>none
  | _=>none
 | _=>none
section
variable {P : Program} {S : Sems} {CS : Calls'} {env : List Val} {y : Sy} {s : Sa} {p : Name} {o : Oper} {k : Sa → Prop} {tb : Tab}
theorem mput_rel {t : Ty} (a : Int) {x : t.den} {c : Value} (hc : scal t x = some c) : ∀ {l : List (Int × t.den)} {kvs : List (Int × Value)},l.map (fun y=>(y.1,scal t y.2)) = kvs.map (fun y=>(y.1,some y.2)) →
  (mputV l a x).map (fun y=>(y.1,scal t y.2)) = (putKV a c kvs).map (fun y=>(y.1,some y.2))
 | [],[],_=>by simp [mputV,putKV,hc]
 | [],_ :: _,h=>by simp at h
 | _ :: _,[],h=>by simp at h
 | (b,z) :: l,(b',d) :: kvs,h=>by
  simp only [List.map_cons,List.cons.injEq,Prod.mk.injEq] at h
  obtain ⟨⟨h1,h2⟩,h3⟩:=h
  subst h1
  simp only [mputV,putKV]
  split
  ·simp only [List.map_cons,hc,h3]
  ·simp only [List.map_cons,h2,mput_rel a hc h3]
theorem scal_some {w : Ty} (h : isScal w = true) (x : w.den) : ∃ c,scal w x = some c:=by
 cases w <;> simp [isScal] at h <;> exact ⟨_,rfl⟩
theorem appendS_ok {c : Call} {x z : Operand} {t u : TypeId} {ts : List TypeId} {a b : SV} {bs : Bs} {y' : Sy} (hop : o.op = .call c) (hc : c.callee = .builtin .append) (hx : c.args.toList = [x,z]) (ht : c.argTypes.toList = t :: u :: ts)
  (ha : InstV env a (s.get x)) (hz : InstV env b (s.get z)) (h : appendS P p y o.dst t u a b = some (bs,y')) (hI : Inst env y s) (hb : okBs CS bs env fun e=>∀ s',Inst e y' s' → k s') : evOp P S p o s k:=by
 unfold appendS at h
 split at h
 ·rename_i e he
  split at h
  ·rename_i w ye hy
   obtain ⟨ys,e1,e2⟩:=asS_ok hy hz
   split at h
   ·rename_i hcond
    obtain ⟨c1,c2,c3,c4,c5,c6⟩:=hcond
    have hall : ∀ d ∈ ys.map (encD w),d.cells.length = tsz P e:=fun d hd=>by
     obtain ⟨q,_,rfl⟩:=List.mem_map.1 hd
     rw [encD_cells,enc_len]; exact c5
    split at h
    ·rename_i i sz w' xe
     split at h
     ·rename_i hh
      obtain ⟨h1,h2,h3⟩:=hh
      subst h3
      cases h
      simp only [InstV] at ha
      obtain ⟨xs,g1,g2,g3⟩:=ha
      obtain ⟨r,r1,r2,r3⟩:=ok_last hI.len hb
      obtain ⟨a',b',rr,cc,x1,x2,x3,x4,x5⟩:=r1
      rw [g1] at x1; cases x1
      rw [e1] at x2; cases x2
      simp only [rel2,dif_pos,if_pos c6,Option.some.injEq] at x3
      subst x3
      simp only at x4
      split at x4
      ·rename_i hle
       cases x4; cases x5
       simp only [evOp,hop,hc,hx,ht,List.map_cons,List.map_nil,he,e2,g3]
       have hlen : xs.length + ys.length ≤ 9223372036854775807:=by
        have:=Nat.le_mul_of_pos_right (xs.length + ys.length) (Nat.pos_of_ne_zero c6)
        omega
       refine ⟨c1,c2,c3,c4,hall,by rw [hI.ow]; exact List.contains_iff_mem.1 h1,h2,by rw [List.length_map,List.length_map]; exact hle,by rw [List.length_map,List.length_map]; exact hlen,r2 _ ?_⟩
       have h4:=(hI.strip i).snoc (⟨.sl w,xs ++ ys⟩ : Val)
       have h5 : Inst (env ++ [⟨.sl w,xs ++ ys⟩]) { ((y.strip i).more [.sl w]) with ow:=i :: (y.strip i).ow } { s.strip i with ow:=i :: (s.strip i).ow } :=
        ⟨h4.g,h4.rd,h4.n,h4.ts,h4.sv,h4.bx,h4.lp,by have:=h4.ow; simp only [Sy.more] at this; simp only [this],h4.vc⟩
       refine h5.put o.dst ?_
       simp only [InstV]
       exact ⟨xs ++ ys,r3,g2,by rw [List.map_append]⟩
      ·cases x4
     ·cases h
    ·cases h
     simp only [InstV] at ha
     obtain ⟨r,r1,r2,r3⟩:=ok_last hI.len hb
     obtain ⟨a',b',rr,cc,x1,x2,x3,x4,x5⟩:=r1
     cases x1
     rw [e1] at x2; cases x2
     simp only [rel2,dif_pos,if_pos c6,Option.some.injEq] at x3
     subst x3
     simp only at x4
     split at x4
     ·rename_i hle
      cases x4; cases x5
      simp only [Ty.zero,List.length_nil,Nat.zero_add] at hle
      simp only [evOp,hop,hc,hx,ht,List.map_cons,List.map_nil,he,e2,ha]
      have hlen : ys.length ≤ 9223372036854775807:=by
       have:=Nat.le_mul_of_pos_right ys.length (Nat.pos_of_ne_zero c6)
       omega
      refine ⟨c1,c2,c3,c4,hall,by rw [List.length_map]; exact hle,by rw [List.length_map]; exact hlen,r2 _ ?_⟩
      have h4:=(hI.strip (o.dst.getD 0 :: p)).snoc (⟨.sl w,(Ty.sl w).zero ++ ys⟩ : Val)
      have h5 : Inst (env ++ [⟨.sl w,(Ty.sl w).zero ++ ys⟩]) { ((y.strip (o.dst.getD 0 :: p)).more [.sl w]) with ow:=(o.dst.getD 0 :: p) :: (y.strip (o.dst.getD 0 :: p)).ow } { s.strip (o.dst.getD 0 :: p) with ow:=(o.dst.getD 0 :: p) :: (s.strip (o.dst.getD 0 :: p)).ow } :=
       ⟨h4.g,h4.rd,h4.n,h4.ts,h4.sv,h4.bx,h4.lp,by have:=h4.ow; simp only [Sy.more] at this; simp only [this],h4.vc⟩
      refine h5.put o.dst ?_
      simp only [InstV]
      exact ⟨_,r3,c5,rfl⟩
     ·cases x4
    ·cases h
   ·cases h
  ·cases h
 ·cases h
theorem stOp_ok (hI : Inst env y s) {bs : Bs} {y' : Sy} (h : stOp P p y o = some (bs,y')) (hb : okBs CS bs env fun e=>∀ s',Inst e y' s' → k s') : evOp P S p o s k:=by
 unfold stOp at h
 simp only at h
 split at h
 ·rename_i x hop
  split at h
  ·rename_i v hv
   split at h
   ·rename_i v' y1 hc
    cases h
    obtain ⟨h1,h2⟩:=hI.claim (hI.get hv) hc
    simp only [evOp,hop]
    exact hb _ (h2.put o.dst h1)
   ·cases h
  ·cases h
 ·rename_i t hop
  split at h
  ·rename_i z hz
   split at h
   ·rename_i hs
    have hv:=zeroSV_ok (env:=env) hz
    obtain ⟨h1,h2,h3⟩:=newS_ok h hI hv hb
    obtain ⟨q1,q2⟩:=sizeS_ok hs hv
    simp only [evOp,hop]
    exact ⟨q1,q2,h1,h2,h3⟩
   ·cases h
  ·cases h
 ·rename_i t x hop
  split at h
  ·rename_i v hv
   split at h
   ·rename_i hs
    have hv':=coeS_ok (w:=tyD P t) (hI.get hv)
    obtain ⟨n,hn⟩:=Option.isSome_iff_exists.1 hs
    obtain ⟨h1,h2,h3⟩:=newS_ok h hI hv' hb
    simp only [evOp,hop]
    exact ⟨(sizeS_ok hn hv').2,h1,h2,h3⟩
   ·cases h
  ·cases h
 ·rename_i t a x hop
  split at h
  ·rename_i n off v h1 h2
   have ha:=hI.get h1
   simp only [InstV] at ha
   exact storeP_ok hop ha (coeS_ok (hI.get h2)) h hI hb
  ·rename_i n off m u i inn v h1 h2
   exact storeA_ok hop (hI.get h1) (coeS_ok (hI.get h2)) h hI hb
  ·cases h
 ·rename_i t parts hop
  split at h
  ·rename_i e he
   split at h
   ·rename_i hh
    split at h
    ·rename_i v' y1 hc
     cases h
     obtain ⟨h1,h2⟩:=hI.claim (show InstV env .nil .nil from rfl) hc
     obtain ⟨c1,c2,c3⟩:=hh
     subst c3
     simp only [evOp,hop,he]
     refine ⟨c1,c2,by omega,rfl,?_⟩
     simp only [List.map_nil,toDs,List.not_mem_nil,false_implies,implies_true,true_and,if_true]
     exact hb _ (h2.put o.dst h1)
    ·cases h
   ·cases h
  ·cases h
 ·rename_i t hop
  split at h
  ·rename_i kd et hk he
   split at h
   ·rename_i w hw
    split at h
    ·rename_i hh
     cases h
     simp only [evOp,hop,hk]
     refine ⟨hI.refs hh.1,(hI.bx.look).2 (isNone_eq hh.2),hb _ ?_⟩
     have h3 : Inst env { y with bx:=(o.dst.getD 0 :: p,.mpc kd w (.zero (.mp kd w))) :: y.bx } { s with bx:=(o.dst.getD 0 :: p,.mpc kd []) :: s.bx } :=
      ⟨hI.g,hI.rd,hI.n,hI.ts,hI.sv,⟨_,_,rfl,by simp only [InstV]; exact ⟨[],[],rfl,rfl,rfl⟩,hI.bx⟩,hI.lp,hI.ow,hI.vc⟩
     exact h3.put o.dst rfl
    ·cases h
   ·cases h
  ·cases h
 ·rename_i t m ky x hop
  split at h
  ·rename_i kd n kd2 a w c hk h1 h2 h3
   split at h
   ·rename_i kd' u l hl
    split at h
    ·rename_i hh
     obtain ⟨rfl,rfl,rfl,c4⟩:=hh
     cases h
     have i1:=hI.get h1
     have i2:=hI.get h2
     have i3:=hI.get h3
     simp only [InstV] at i1 i2 i3
     obtain ⟨av,e2,e3⟩:=i2
     obtain ⟨cv,e4,e5⟩:=i3
     obtain ⟨b,g1,g2⟩:=(hI.bx.look (n:=n)).1 hl
     simp only [InstV] at g2
     obtain ⟨lv,kvs,e6,rfl,e7⟩:=g2
     obtain ⟨cc,hcc⟩:=scal_some c4 cv
     have hcd:=scal_enc hcc
     simp only [evOp,hop,hk,i1,g1,e3,e5,encD_int,hcd]
     refine ⟨trivial,trivial,hb _ ?_⟩
     have h3 : Inst env { y with bx:=setN n (.mpc kd2 w (.p2 .mput l (.p2 .pair a c))) y.bx } { s with bx:=setN n (.mpc kd2 (putKV av cc kvs)) s.bx } :=
      ⟨hI.g,hI.rd,hI.n,hI.ts,hI.sv,hI.bx.setN (by
       simp only [InstV]
       refine ⟨mputV lv av cv,_,?_,rfl,mput_rel av hcc e7⟩
       simp [E.val,app2,e6,e2,e4,prim2]),hI.lp,hI.ow,hI.vc⟩
     exact h3.put o.dst rfl
    ·cases h
   ·cases h
  ·cases h
 ·rename_i c hop
  split at h
  ·rename_i hc
   split at h
   ·rename_i x z t u ts hx ht
    split at h
    ·rename_i a b h1 h2
     exact appendS_ok hop hc hx ht (hI.get h1) (hI.get h2) h hI hb
    ·cases h
   ·cases h
  ·cases h
 ·cases h
end
end Go.Tx
namespace Go.Tx
set_option linter.unusedVariables false
set_option linter.unusedSimpArgs false
open Go Go.Ab
theorem flat_enc {u : Ty} : ∀ (a : List u.den),flatD (a.map (encD u)) = a.flatMap (enc u)
 | []=>rfl
 | x :: a=>by simp only [flatD,List.map_cons,List.flatMap_cons,encD_cells]; congr 1; exact flat_enc a
theorem flatMap_len {u : Ty} : ∀ (a : List u.den),(a.flatMap (enc u)).length = a.length * u.size
 | []=>by simp
 | x :: a=>by rw [List.flatMap_cons,List.length_append,flatMap_len a,enc_len,List.length_cons,Nat.succ_mul,Nat.add_comm]
theorem flat_at {u : Ty} (a : List u.den) {j : Nat} (hj : j < a.length) (inn : Nat) (hi : inn ≤ u.size) : ((enc u a[j]).drop inn) <+: (flatD (a.map (encD u))).drop (j * u.size + inn):=by
 have e : a = a.take j ++ (a[j] :: a.drop (j + 1)):=by rw [List.getElem_cons_drop,List.take_append_drop]
 rw [flat_enc]
 have e2 : a.flatMap (enc u) = (a.take j).flatMap (enc u) ++ (enc u a[j] ++ (a.drop (j + 1)).flatMap (enc u)):=by
  conv=>lhs; rw [e]
  rw [List.flatMap_append,List.flatMap_cons]
 rw [e2]
 have hl : ((a.take j).flatMap (enc u)).length = j * u.size:=by rw [flatMap_len,List.length_take,Nat.min_eq_left (by omega)]
 have hd : ((a.take j).flatMap (enc u)).drop (j * u.size + inn) = []:=List.drop_eq_nil_of_le (by rw [hl]; exact Nat.le_add_right _ _)
 rw [List.drop_append,hd,List.nil_append,hl,Nat.add_sub_cancel_left,List.drop_append_of_le_length (by rw [enc_len]; exact hi)]
 exact List.prefix_append _ _
def isSl (P : Program) (t : TypeId) : Bool:=(telem P t).isSome
def vecOp (P : Program) (p : Name) (y : Sy) (o : Oper) : Option (Bs × Sy) :=
 let nv:=y.g.length
 match o.op with
 | .nilCheck x=>match y.get x with
  | some (.vpt n u i inn)=>some ([],y.put o.dst (.vpt n u i inn))
  | _=>none
 | .fieldAddr t x i=>match tfield P t i,y.get x with
  | some (off,ft),some (.vpt n u j inn)=>if tsz P ft ≠ 0 then some ([],y.put o.dst (.vpt n u j (inn + off))) else none
  | _,_=>none
 | .indexAddr t x ix=>match telem P t,y.get x,(y.get ix).bind asI with
  | some e,some (.vsl n),some (q,i)=>match lookN n y.vc with
   | some (u,l)=>if tsz P e ≠ 0 ∧ u.size = tsz P e then some ([(.r2 .idx l i,u)],(y.more [u]).put o.dst (.vpt n u i 0)) else none
   | none=>none
  | _,_,_=>none
 | .load t x=>match tagg P t,y.get x with
  | some ag,some (.vpt n u i inn)=>match lookN n y.vc with
   | some (u',l)=>if u' = u ∧ (ag = false → tsz P t ≠ 0) ∧ inn ≤ u.size then (match loadE ag (tyD P t) inn (tsz P t) u (.var nv) with
    | some (v,e)=>some ([(.r2 .idx l i,u)],(y.more [u]).put o.dst (.e v e))
    | none=>none) else none
   | none=>none
  | _,_=>none
 | .store t a x=>match y.get a,y.get x with
  | some (.vpt n u i inn),some v=>match lookN n y.vc,asE (tyD P t) (coeS (tyD P t) v) with
   | some (u',l),some (w,e)=>if u' = u ∧ w.size = tsz P t ∧ tsz P t ≠ 0 ∧ inn + w.size ≤ u.size ∧ (sizeS (coeS (tyD P t) v)).isSome = true then
     (if w = u ∧ inn = 0 then some ([(.r3 .lset l i e,.sl u)],({ y.more [.sl u] with vc:=setN n (u,.var nv) y.vc } : Sy).put o.dst .dead)
     else if u.ag = some true ∧ (inn ≠ 0 ∨ w.size ≠ u.size) ∧ ty2 (.upd inn) u w = some u then some ([(.r2 .idx l i,u),(.r3 .lset l i (.p2 (.upd inn) (.var nv) e),.sl u)],({ y.more [u,.sl u] with vc:=setN n (u,.var (nv + 1)) y.vc } : Sy).put o.dst .dead)
     else none) else none
   | _,_=>none
  | _,_=>none
 | .call c=>match c.callee with
  | .builtin .len=>match c.args.toList,c.argTypes.toList with
   | [x],t :: _=>match y.get x with
    | some (.vsl n)=>match lookN n y.vc with
     | some (_,l)=>if isSl P t = true then some ([],y.put o.dst (.e (.int .i64) (.p1 .len l))) else none
     | none=>none
    | _=>none
   | _,_=>none
  | .builtin .append=>match c.args.toList,c.argTypes.toList with
   | [x,z],t :: u :: _=>match y.get x,y.get z with
    | some (.vsl n),some b=>match lookN n y.vc,telem P t,asS (tyD P u) b with
     | some (w',l),some e,some (w,ye)=>if telem P u = some e ∧ tsz P e ≠ 0 ∧ isCells (tzero P e) = true ∧ (tzero P e).cells.length = tsz P e ∧ w.size = tsz P e ∧ tbytes P e ≠ 0 ∧ w = w' then
       some ([(.r2 (.app (tbytes P e)) l ye,.sl w)],({ ((y.strip n).more [.sl w]) with ow:=n :: (y.strip n).ow,vc:=(n,(w,.var nv)) :: (y.strip n).vc } : Sy).put o.dst (.vsl n)) else none
     | _,_,_=>none
    | _,_=>none
   | _,_=>none
  | _=>none
 | _=>none
section
variable {P : Program} {S : Sems} {CS : Calls'} {env : List Val} {y : Sy} {s : Sa} {p : Name} {o : Oper} {k : Sa → Prop}
theorem set_whole {u : Ty} (a : List u.den) (j : Nat) (hj : j < a.length) (b : u.den) (hz : u.size ≠ 0) : setE u.size (j * u.size + 0) (encD u b) (a.map (encD u)) = (a.set j b).map (encD u):=by
 have h1 : (j * u.size + 0) / u.size = j:=by rw [Nat.add_zero,Nat.mul_div_cancel _ (Nat.pos_of_ne_zero hz)]
 have h2 : (j * u.size + 0) % u.size = 0:=by rw [Nat.add_zero,Nat.mul_mod_left]
 unfold setE
 rw [h1,h2,List.getElem?_map,List.getElem?_eq_getElem hj]
 simp only [Option.map_some]
 rw [if_pos ⟨trivial,by rw [encD_cells,encD_cells,enc_len,enc_len]⟩,List.map_set]
theorem set_part {u w : Ty} (a : List u.den) (j : Nat) (hj : j < a.length) {inn : Nat} (b : w.den) (c : u.den) (hag : u.ag = some true) (hin : inn + w.size ≤ u.size) (hne : inn ≠ 0 ∨ w.size ≠ u.size) (hw : w.size ≠ 0) (hc : enc u c = over (enc u a[j]) (enc w b) inn) :
  setE u.size (j * u.size + inn) (encD w b) (a.map (encD u)) = (a.set j c).map (encD u):=by
 have hz : 0 < u.size:=by omega
 have h1 : (j * u.size + inn) / u.size = j:=by rw [Nat.mul_comm,Nat.mul_add_div hz,Nat.div_eq_of_lt (by omega),Nat.add_zero]
 have h2 : (j * u.size + inn) % u.size = inn:=by rw [Nat.mul_comm,Nat.mul_add_mod,Nat.mod_eq_of_lt (by omega)]
 unfold setE
 rw [h1,h2,List.getElem?_map,List.getElem?_eq_getElem hj]
 simp only [Option.map_some]
 rw [if_neg (by rw [encD_cells,encD_cells,enc_len,enc_len]; omega),List.map_set]
 congr 1
 rw [encD_cells,encD_cells,encD_ag hag c,hc]
 rfl
theorem vecOp_ok {bs : Bs} {y' : Sy} (hI : Inst env y s) (hw : EnvWf env) (h : vecOp P p y o = some (bs,y')) (hb : okBs CS bs env fun e=>∀ s',Inst e y' s' → k s') : evOp P S p o s k:=by
 unfold vecOp at h
 simp only at h
 split at h
 ·rename_i x hop
  split at h
  ·rename_i n u i inn hx
   cases h
   have hv:=hI.get hx
   simp only [InstV] at hv
   obtain ⟨q,j,h1,h2,h3⟩:=hv
   simp only [evOp,hop,h3]
   exact hb _ (hI.put o.dst (by simp only [InstV]; exact ⟨q,j,h1,h2,rfl⟩))
  ·cases h
 ·rename_i t x i hop
  split at h
  ·rename_i off ft n u e inn hf hx
   split at h
   ·rename_i hz
    cases h
    have hv:=hI.get hx
    simp only [InstV] at hv
    obtain ⟨q,j,h1,h2,h3⟩:=hv
    simp only [evOp,hop,hf,h3]
    exact ⟨hz,hb _ (hI.put o.dst (by simp only [InstV]; exact ⟨q,j,h1,h2,by rw [Nat.add_assoc]⟩))⟩
   ·cases h
  ·cases h
 ·rename_i t x ix hop
  split at h
  ·rename_i e n q i he hx hix
   split at h
   ·rename_i u l hl
    split at h
    ·rename_i hc
     cases h
     have hv:=hI.get hx
     simp only [InstV] at hv
     obtain ⟨z,hz1,hz2⟩:=Option.bind_eq_some_iff.1 hix
     obtain ⟨j,g1,g2⟩:=asI_ok hz2 (hI.get hz1)
     obtain ⟨a,e1,e2⟩:=(hI.vc.look).1 hl
     obtain ⟨c,r1,r2,r3⟩:=ok_last hI.len hb
     obtain ⟨a',b',r,c',x1,x2,x3,x4,x5⟩:=r1
     rw [e1] at x1; cases x1
     rw [g1] at x2; cases x2
     simp only [rel2,Option.some.injEq] at x3
     subst x3
     simp only at x4
     split at x4
     ·rename_i hn
      cases x5
      obtain ⟨hlt,hget⟩:=List.getElem?_eq_some_iff.1 x4
      simp only [evOp,hop,g2,intOfV,he,hv,sliceOf,e2]
      refine ⟨hc.1,hc.2,hn,by rw [List.length_map]; omega,r2 _ ?_⟩
      have h4:=hI.snoc (⟨u,c⟩ : Val)
      refine h4.put o.dst ?_
      simp only [InstV]
      exact ⟨q,j,E.val_app _ g1,hn,by rw [Nat.add_zero,hc.2]⟩
     ·cases x4
    ·cases h
   ·cases h
  ·cases h
 ·rename_i t x hop
  split at h
  ·rename_i ag n u i inn hag hx
   split at h
   ·rename_i u' l hl
    split at h
    ·rename_i hc
     obtain ⟨rfl,hz,hin⟩:=hc
     split at h
     ·rename_i v e hle
      cases h
      have hv:=hI.get hx
      simp only [InstV] at hv
      obtain ⟨q,j,g1,g2,g3⟩:=hv
      obtain ⟨a,e1,e2⟩:=(hI.vc.look).1 hl
      obtain ⟨c,r1,r2,r3⟩:=ok_last hI.len hb
      obtain ⟨a',b',r,c',x1,x2,x3,x4,x5⟩:=r1
      rw [e1] at x1; cases x1
      rw [g1] at x2; cases x2
      simp only [rel2,Option.some.injEq] at x3
      subst x3
      simp only at x4
      rw [if_pos g2] at x4
      cases x5
      obtain ⟨hlt,hget⟩:=List.getElem?_eq_some_iff.1 x4
      subst hget
      have hp:=flat_at a hlt inn hin
      obtain ⟨t1,t2⟩:=takeD_e hle r3 hp
      simp only [evOp,hop,hag,g3,e2]
      exact ⟨hz,t2,r2 _ ((hI.snoc (⟨u',a[j.toNat]⟩ : Val)).put o.dst t1)⟩
     ·cases h
    ·cases h
   ·cases h
  ·cases h
 ·rename_i t a x hop
  split at h
  ·rename_i n u i inn v ha hx
   split at h
   ·rename_i u' l w e hl has
    split at h
    ·rename_i hc
     obtain ⟨rfl,hws,htz,hin,hsz⟩:=hc
     have hv:=hI.get ha
     simp only [InstV] at hv
     obtain ⟨q,j,g1,g2,g3⟩:=hv
     obtain ⟨al,e1,e2⟩:=(hI.vc.look).1 hl
     have hvv:=coeS_ok (w:=tyD P t) (hI.get hx)
     obtain ⟨b,f1,f2⟩:=asE_ok has hvv
     obtain ⟨nn,hnn⟩:=Option.isSome_iff_exists.1 hsz
     have hcells:=(sizeS_ok hnn hvv).2
     have hdl : (encD w b).cells.length = tsz P t:=by rw [encD_cells,enc_len]; exact hws
     have hu0 : u'.size ≠ 0:=by omega
     have common : ∀ (hlt : j.toNat < al.length) (xs' : List D),setE u'.size (j.toNat * u'.size + inn) (encD w b) (al.map (encD u')) = xs' → k ({ s with vc:=Ab.setN n (u'.size,xs') s.vc }.put o.dst .dead) → evOp P S p o s k:=by
      intro hlt xs' hxs hk
      have d1 : (j.toNat * u'.size + inn) / u'.size = j.toNat ∨ inn = u'.size:=by
       by_cases h : inn < u'.size
       ·left; rw [Nat.mul_comm,Nat.mul_add_div (by omega),Nat.div_eq_of_lt h,Nat.add_zero]
       ·right; omega
      have hin' : inn < u'.size:=by omega
      have d2 : (j.toNat * u'.size + inn) / u'.size = j.toNat:=by
       rw [Nat.mul_comm,Nat.mul_add_div (by omega),Nat.div_eq_of_lt hin',Nat.add_zero]
      have d3 : (j.toNat * u'.size + inn) % u'.size = inn:=by
       rw [Nat.mul_comm,Nat.mul_add_mod,Nat.mod_eq_of_lt hin']
      simp only [evOp,hop,g3,e2,f2]
      refine ⟨htz,hcells,hdl,by rw [d3]; omega,by rw [d2,List.length_map]; exact hlt,?_⟩
      rw [hxs]; exact hk
     split at h
     ·rename_i hwh
      obtain ⟨rfl,rfl⟩:=hwh
      cases h
      obtain ⟨c,r1,r2,r3⟩:=ok_last hI.len hb
      obtain ⟨a',b',d',r,c',x1,x2,x3,x4,x5,x6⟩:=r1
      rw [e1] at x1; cases x1
      rw [g1] at x2; cases x2
      rw [f1] at x3; cases x3
      simp only [rel3,dif_pos,Option.some.injEq] at x4
      subst x4
      simp only at x5
      split at x5
      ·rename_i hlt
       cases x5; cases x6
       refine common hlt.2 _ (set_whole al j.toNat hlt.2 b hu0) (r2 _ ?_)
       have h4:=hI.snoc (⟨.sl w,al.set j.toNat b⟩ : Val)
       have h5 : Inst (env ++ [⟨.sl w,al.set j.toNat b⟩]) ({ y.more [.sl w] with vc:=Ab.setN n (w,.var y.g.length) y.vc } : Sy) ({ s with vc:=Ab.setN n (w.size,(al.set j.toNat b).map (encD w)) s.vc } : Sa) :=
        ⟨h4.g,h4.rd,h4.n,h4.ts,h4.sv,h4.bx,h4.lp,h4.ow,InstC.set r3 h4.vc⟩
       exact h5.put o.dst rfl
      ·cases x5
     ·split at h
      ·rename_i hpt
       obtain ⟨hag,hne,hty⟩:=hpt
       cases h
       obtain ⟨v1,v2,v3,v4⟩:=hb
       obtain ⟨a',b',r,c',x1,x2,x3,x4,x5⟩:=v3
       rw [e1] at x1; cases x1
       rw [g1] at x2; cases x2
       simp only [rel2,Option.some.injEq] at x3
       subst x3
       simp only at x4
       rw [if_pos g2] at x4
       cases x5
       obtain ⟨hlt,hget⟩:=List.getElem?_eq_some_iff.1 x4
       subst hget
       have hlen1 : (env ++ [(⟨u',al[j.toNat]⟩ : Val)]).length = y.g.length + 1:=by rw [List.length_append,hI.len]; rfl
       obtain ⟨c,r1,r2,r3⟩:=ok_last hlen1 v4
       obtain ⟨a',b',d',r,c',x1,x2,x3,x4',x5',x6⟩:=r1
       rw [E.val_app _ e1] at x1; cases x1
       rw [E.val_app _ g1] at x2; cases x2
       have hlast : (E.var y.g.length).val (env ++ [(⟨u',al[j.toNat]⟩ : Val)]) = some ⟨u',al[j.toNat]⟩:=var_last hI.len
       obtain ⟨ff,p1,p2⟩:=val2 (o:=.upd inn) hty hlast (E.val_app [(⟨u',al[j.toNat]⟩ : Val)] f1)
       rw [p2] at x3; cases x3
       simp only [rel3,dif_pos,Option.some.injEq] at x4'
       subst x4'
       simp only at x5'
       split at x5'
       ·cases x5'; cases x6
        have hup : updF u' w inn = some ⟨u',ff⟩:=p1
        obtain ⟨_,_,_,q4⟩:=updF_enc _ _ _ _ _ hup
        refine common hlt _ (set_part al j.toNat hlt b (ff al[j.toNat] b) hag hin hne (by omega) (q4 _ _)) (r2 _ ?_)
        have h4:=(hI.snoc (⟨u',al[j.toNat]⟩ : Val)).snoc (⟨.sl u',al.set j.toNat (ff al[j.toNat] b)⟩ : Val)
        have h5 : Inst (env ++ [(⟨u',al[j.toNat]⟩ : Val)] ++ [⟨.sl u',al.set j.toNat (ff al[j.toNat] b)⟩]) ({ y.more [u',.sl u'] with vc:=Ab.setN n (u',.var (y.g.length + 1)) y.vc } : Sy) ({ s with vc:=Ab.setN n (u'.size,(al.set j.toNat (ff al[j.toNat] b)).map (encD u')) s.vc } : Sa) :=
         ⟨by have:=h4.g; simpa [Sy.more] using this,h4.rd,h4.n,h4.ts,h4.sv,h4.bx,h4.lp,h4.ow,InstC.set r3 h4.vc⟩
        exact h5.put o.dst rfl
       ·cases x5'
      ·cases h
    ·cases h
   ·cases h
  ·cases h
 ·rename_i c hop
  split at h
  ·rename_i hcl
   split at h
   ·rename_i x t ts hx ht
    split at h
    ·rename_i n hn
     split at h
     ·rename_i u l hl
      split at h
      ·rename_i ht2
       cases h
       have hv:=hI.get hn
       simp only [InstV] at hv
       obtain ⟨a,e1,e2⟩:=(hI.vc.look).1 hl
       obtain ⟨e,he⟩:=Option.isSome_iff_exists.1 ht2
       have hu:=telem_inv he
       simp only [evOp,hop,hcl,hx,ht,List.map_cons,List.map_nil,hv,sliceOf,he,hu,e2]
       refine hb _ (hI.put o.dst ?_)
       simp only [InstV]
       refine ⟨(a.length : Int),?_,by rw [List.length_map]; rfl⟩
       simp [E.val,app1,e1,prim1]
      ·cases h
     ·cases h
    ·cases h
   ·cases h
  ·rename_i hcl
   split at h
   ·rename_i x z t u ts hx ht
    split at h
    ·rename_i n b hn hz
     split at h
     ·rename_i w' l e w ye hl he has
      split at h
      ·rename_i hc
       obtain ⟨c1,c2,c3,c4,c5,c6,rfl⟩:=hc
       cases h
       have hv:=hI.get hn
       simp only [InstV] at hv
       obtain ⟨a,e1,e2⟩:=(hI.vc.look).1 hl
       obtain ⟨ys,f1,f2⟩:=asS_ok has (hI.get hz)
       obtain ⟨r,r1,r2,r3⟩:=ok_last hI.len hb
       obtain ⟨a',b',rr,cc,x1,x2,x3,x4,x5⟩:=r1
       rw [e1] at x1; cases x1
       rw [f1] at x2; cases x2
       simp only [rel2,dif_pos,if_pos c6,Option.some.injEq] at x3
       subst x3
       simp only at x4
       split at x4
       ·rename_i hle
        cases x4; cases x5
        have hall : ∀ d ∈ ys.map (encD w),d.cells.length = tsz P e:=fun d hd=>by
         obtain ⟨q,_,rfl⟩:=List.mem_map.1 hd
         rw [encD_cells,enc_len]; exact c5
        have hlen : a.length + ys.length ≤ 9223372036854775807:=by
         have:=Nat.le_mul_of_pos_right (a.length + ys.length) (Nat.pos_of_ne_zero c6)
         omega
        simp only [evOp,hop,hcl,hx,ht,List.map_cons,List.map_nil,he,f2,hv,e2]
        refine ⟨c1,c2,c3,c4,hall,c5,by rw [List.length_map,List.length_map]; exact hle,by rw [List.length_map,List.length_map]; exact hlen,r2 _ ?_⟩
        have h4:=(hI.strip n).snoc (⟨.sl w,a ++ ys⟩ : Val)
        have h5 : Inst (env ++ [⟨.sl w,a ++ ys⟩]) ({ ((y.strip n).more [.sl w]) with ow:=n :: (y.strip n).ow,vc:=(n,(w,.var y.g.length)) :: (y.strip n).vc } : Sy) ({ s.strip n with ow:=n :: (s.strip n).ow,vc:=(n,(w.size,a.map (encD w) ++ ys.map (encD w))) :: (s.strip n).vc } : Sa) :=
         ⟨h4.g,h4.rd,h4.n,h4.ts,h4.sv,h4.bx,h4.lp,by have:=h4.ow; simp only [Sy.more] at this; simp only [this],⟨a ++ ys,_,by rw [List.map_append],r3,h4.vc⟩⟩
        exact h5.put o.dst rfl
       ·cases x4
      ·cases h
     ·cases h
    ·cases h
   ·cases h
  ·cases h
 ·cases h
end
end Go.Tx
namespace Go.Tx
set_option linter.unusedVariables false
set_option linter.unusedSimpArgs false
open Go Go.Ab
def reduceG (gs : List E) (z : SV) : SV:=match z with
 | .gd hs x=>match hs.filter (fun h=>!(gs.any (fun g=>g.same h))) with
  | []=>x
  | hs'=>.gd hs' x
 | z=>z
def typedB (Γ : List Ty) : SV → Bool
 | .e t x=>decide (tyE Γ x = some t)
 | .ref t x _=>decide (tyE Γ x = some t)
 | .own _ _ t x=>decide (tyE Γ x = some (.sl t))
 | _=>true
def finE (n0 : Nat) (bs : Bs) (z : SV) : Bs × SV:=match z with
 | .e t x=>if 24 < x.size then (bs ++ [(.lets x,t)],.e t (.var (n0 + bs.length))) else (bs,z)
 | z=>(bs,z)
def opS (P : Program) (tb : Tab) (p : Name) (y : Sy) (o : Oper) : Option (Bs × Sy) :=
 match valOp P tb y y.get o.op with
 | some (bs,z)=>some ((finE y.g.length bs z).1,(y.more ((finE y.g.length bs z).1.map (·.2))).put o.dst (finE y.g.length bs z).2)
 | none=>match stOp P p y o with
  | some r=>some r
  | none=>vecOp P p y o
def opG (P : Program) (tb : Tab) (y : Sy) (o : Oper) (gs : List E) : Option (Bs × Sy) :=
 match valOp P tb y (fun x=>(y.get x).map (reduceG gs)) o.op with
 | some (bs,z)=>if typedB (y.g ++ bs.map (·.2)) z = true then some (bs.map (fun b=>(.ifb gs b.1 b.2,b.2)),(y.more (bs.map (·.2))).put o.dst (.gd gs z)) else none
 | none=>none
def dstOK (n : Nat) : Option Tmp → Bool
 | some d=>decide (d < n)
 | none=>true
def oneOp (P : Program) (tb : Tab) (p : Name) (ops : Array Oper) (y : Sy) (o : Oper) : Option (Bs × Sy) :=
 if dstOK y.n o.dst = true then (match o.guard with
  | none=>opS P tb p y o
  | some (j,want)=>match (ops[j]?).bind (·.dst) with
   | some t=>match lkS t y.ts with
    | .e .bool (.bool b)=>if b = want then opS P tb p y o else some ([],y.put o.dst (.tup []))
    | .e .bool c=>opG P tb y o [if want then c else .p1 .not c]
    | .gd gs (.e .bool c)=>opG P tb y o (gs ++ [if want then c else .p1 .not c])
    | .tup []=>some ([],y.put o.dst (.tup []))
    | _=>none
   | none=>none) else none
section
variable {P : Program} {S : Sems} {env : List Val} {y : Sy} {s : Sa} {p : Name} {o : Oper} {k : Sa → Prop} {tb : Tab}
theorem holds_mem {gs : List E} (h : holds env gs = some true) : ∀ g ∈ gs,g.val env = some ⟨.bool,true⟩:=by
 induction gs with
 | nil=>simp
 | cons g gs ih =>
  simp only [holds] at h
  split at h
  ·rename_i b r h1 h2
   simp only [Option.some.injEq,Bool.and_eq_true] at h
   obtain ⟨rfl,rfl⟩:=h
   intro x hx
   rcases List.mem_cons.1 hx with rfl | hx
   ·exact h1
   ·exact ih h2 x hx
  ·cases h
theorem holds_filter {gs : List E} (h : holds env gs = some true) : ∀ {hs : List E} {b : Bool},holds env hs = some b → holds env (hs.filter (fun h=>!(gs.any (fun g=>g.same h)))) = some b
 | [],b,e=>e
 | x :: hs,b,e=>by
  simp only [holds] at e
  split at e
  ·rename_i c r h1 h2
   cases e
   have ih:=holds_filter h h2
   simp only [List.filter_cons]
   split
   ·simp only [holds,h1,ih]
   ·rename_i hn
    simp only [Bool.not_eq_true',Bool.not_eq_false] at hn
    obtain ⟨g,hg,hs'⟩:=List.any_eq_true.1 hn
    have:=E.same_eq hs'
    subst this
    have h3:=holds_mem h g hg
    rw [h1] at h3; cases h3
    simpa using ih
  ·cases e
theorem reduceG_ok {gs : List E} (h : holds env gs = some true) {z : SV} {v : V} (hv : InstV env z v) : InstV env (reduceG gs z) v:=by
 unfold reduceG
 split
 ·rename_i hs x
  have hv':=hv
  simp only [InstV] at hv
  obtain ⟨b,h1,h2,h3,h4⟩:=hv
  have hf:=holds_filter h h1
  split
  ·rename_i he
   rw [he] at hf
   simp only [holds] at hf; cases hf
   exact h3 rfl
  ·simp only [InstV]
   exact ⟨b,hf,h2,h3,h4⟩
 ·exact hv
theorem typedB_ok {Γ : List Ty} (hg : env.map (·.1) = Γ) {z : SV} (h : typedB Γ z = true) : typed env z:=by
 cases z <;> simp only [typedB,decide_eq_true_eq] at h <;> simp only [typed]
 ·exact tyE_ok hg h
 ·exact tyE_ok hg h
 ·exact tyE_ok hg h
theorem Inst.ext {env l : List Val} {ts : List Ty} (hI : Inst env y s) (h : l.map (·.1) = ts) : Inst (env ++ l) (y.more ts) s:=by
 subst h; exact hI.app l
theorem nx_of {CS : Calls'} {bs : Bs} {z : SV} (hI : Inst env y s) (h : okBs CS bs env fun e=>∀ s',Inst e ((y.more (bs.map (·.2))).put o.dst z) s' → k s') : okBs CS bs env (Nx o s k z):=by
 refine okBs_mono ?_ (okBs_ext h)
 rintro e ⟨⟨l,e1,e2⟩,hq⟩ v hv
 subst e1
 exact hq _ ((hI.ext e2).put o.dst hv)
theorem finE_ok {CS : Calls'} {bs : Bs} {z : SV} (hI : Inst env y s) (h : okBs CS (finE y.g.length bs z).1 env fun e=>∀ s',Inst e ((y.more ((finE y.g.length bs z).1.map (·.2))).put o.dst (finE y.g.length bs z).2) s' → k s') :
  okBs CS bs env (Nx o s k z):=by
 unfold finE at h
 split at h
 ·rename_i t x
  split at h
  ·rw [okBs_app] at h
   refine okBs_mono ?_ (okBs_ext h)
   rintro e ⟨⟨l,e1,e2⟩,hq⟩ v hv
   subst e1
   simp only [okBs] at hq
   obtain ⟨w,w1,w2,w3⟩:=hq
   simp only [InstV] at hv
   obtain ⟨a,h1,rfl⟩:=hv
   have w2' : x.val (env ++ l) = some w:=w2
   rw [h1] at w2'
   cases w2'
   rw [List.append_assoc] at w3
   refine w3 _ ((hI.ext (l:=l ++ [⟨t,a⟩]) (by simp [e2])).put o.dst ?_)
   simp only [InstV]
   refine ⟨a,?_,rfl⟩
   rw [← List.append_assoc]
   refine var_last ?_
   have:=congrArg List.length e2
   simp only [List.length_map] at this
   rw [List.length_append,hI.len,this]
  ·exact nx_of hI h
 ·exact nx_of hI h
theorem opS_ok (hS : PureS P S) (hI : Inst env y s) (hw : EnvWf env) (hd : ∀ d,o.dst = some d → d < s.n) {bs : Bs} {y' : Sy} (h : opS P tb p y o = some (bs,y')) (hb : okBs (CallV P) bs env fun e=>∀ s',Inst e y' s' → k s') : evOp P S p o s k:=by
 unfold opS at h
 split at h
 ·rename_i bs' z hv
  cases h
  exact valOp_ok hS (fun o x hx=>hI.get hx) hI hw hd hv (finE_ok hI hb)
 ·split at h
  ·rename_i r hst
   cases h
   exact stOp_ok hI hst hb
  ·exact vecOp_ok hI hw h hb
theorem okBs_if {CS : Calls'} {gs : List E} : ∀ {bs : Bs} {env : List Val} {Q : List Val → Prop} {c : Bool},holds env gs = some c → okBs CS (bs.map fun b=>(B.ifb gs b.1 b.2,b.2)) env Q →
  (c = true → okBs CS bs env Q) ∧ (c = false → ∃ l : List Val,l.map (·.1) = bs.map (·.2) ∧ Q (env ++ l))
 | [],env,Q,c,hc,h=>⟨fun _=>h,fun _=>⟨[],rfl,by rw [List.append_nil]; exact h⟩⟩
 | b :: bs,env,Q,c,hc,h=>by
  simp only [List.map_cons,okBs] at h
  obtain ⟨v,v1,⟨c',v2,v3,v4⟩,v5⟩:=h
  rw [hc] at v2; cases v2
  have ih:=okBs_if (holds_app [v] hc) v5
  refine ⟨fun e=>⟨v,v1,(v3 e).1,ih.1 e⟩,fun e=>?_⟩
  obtain ⟨l,l1,l2⟩:=ih.2 e
  exact ⟨v :: l,by simp [v1,l1],by simpa using l2⟩
theorem opG_ok (hS : PureS P S) (hI : Inst env y s) (hw : EnvWf env) (hd : ∀ d,o.dst = some d → d < s.n) {gs : List E} {c : Bool} (hc : holds env gs = some c) {bs : Bs} {y' : Sy} (h : opG P tb y o gs = some (bs,y')) (hb : okBs (CallV P) bs env fun e=>∀ s',Inst e y' s' → k s') :
  (c = true → evOp P S p o s k) ∧ (c = false → k (s.put o.dst (.tup []))):=by
 unfold opG at h
 split at h
 ·rename_i bs' z hv
  split at h
  ·rename_i ht
   cases h
   obtain ⟨h1,h2⟩:=okBs_if hc hb
   refine ⟨fun e=>?_,fun e=>?_⟩
   ·subst e
    refine valOp_ok hS (fun o x hx=>?_) hI hw hd hv ?_
    ·obtain ⟨x',g1,rfl⟩:=Option.map_eq_some_iff.1 hx
     exact reduceG_ok hc (hI.get g1)
    ·refine okBs_mono ?_ (okBs_ext (h1 rfl))
     rintro e ⟨⟨l,e1,e2⟩,hq⟩ v hv
     subst e1
     have h3:=hI.ext e2
     refine hq _ (h3.put o.dst ?_)
     simp only [InstV]
     exact ⟨true,holds_app l hc,typedB_ok h3.g ht,fun _=>hv,fun e=>nomatch e⟩
   ·subst e
    obtain ⟨l,l1,l2⟩:=h2 rfl
    have h3:=hI.ext l1
    refine l2 _ (h3.put o.dst ?_)
    simp only [InstV]
    exact ⟨false,holds_app l hc,typedB_ok h3.g ht,fun e=>(nomatch e),fun _=>trivial⟩
  ·cases h
 ·cases h
theorem setT_self {t : Nat} {v : V} : ∀ {l : List (Nat × V)},lkT t l = v → v ≠ .dead → setT t v l = l
 | [],h,hn=>absurd h.symm hn
 | (a,b) :: l,h,hn=>by
  simp only [lkT] at h
  simp only [setT]
  split at h
  ·rename_i e; rw [if_pos e,h]
  ·rename_i e; rw [if_neg e,setT_self h hn]
theorem put_self {t : Nat} {v : V} (h : lkT t s.ts = v) (hn : v ≠ .dead) : s.put (some t) v = s:=by
 simp only [Sa.put,setT_self h hn]
theorem holds_snoc {gs : List E} {g : E} {b c : Bool} (h1 : holds env gs = some b) (h2 : g.val env = some ⟨.bool,c⟩) : holds env (gs ++ [g]) = some (b && c):=by
 induction gs generalizing b with
 | nil=>cases h1; simp [holds,h2]
 | cons x gs ih =>
  simp only [holds] at h1
  split at h1
  ·rename_i d r e1 e2
   cases h1
   simp only [List.cons_append,holds,e1,ih e2,Bool.and_assoc]
  ·cases h1
theorem wantE_val {c : E} {b : Bool} (want : Bool) (h : c.val env = some ⟨.bool,b⟩) : (if want = true then c else .p1 .not c).val env = some ⟨.bool,b == want⟩:=by
 cases want with
 | true=>simp [h]
 | false=>cases b <;> simp [E.val,app1,h,prim1]
theorem oneOp_ok (hS : PureS P S) {ops : Array Oper} {rest : List Oper} (hI : Inst env y s) (hw : EnvWf env) {bs : Bs} {y' : Sy} (h : oneOp P tb p ops y o = some (bs,y'))
  (hb : okBs (CallV P) bs env fun e=>∀ s',Inst e y' s' → evOps P S p ops rest s' k) : evOps P S p ops (o :: rest) s k:=by
 unfold oneOp at h
 split at h
 ·rename_i hdst
  have hd : match o.dst with | some d=>d < s.n | none=>True:=by
   cases hdd : o.dst with
   | none=>trivial
   | some d=>rw [hdd] at hdst; simp only [dstOK,decide_eq_true_eq] at hdst; show d < s.n; rw [hI.n]; exact hdst
  have hd' : ∀ d,o.dst = some d → d < s.n:=fun d e=>by rw [e] at hd; exact hd
  simp only [evOps]
  refine ⟨hd,?_⟩
  split at h
  ·rename_i hg
   simp only [hg]
   exact opS_ok hS hI hw hd' h hb
  ·rename_i j want hg
   simp only [hg]
   split at h
   ·rename_i t ht
    simp only [ht]
    have hlk:=hI.ts.lk (t:=t)
    have known : ∀ {c : E} {b : Bool} {gs : List E} {r : Bool},c.val env = some ⟨.bool,b⟩ → lkT t s.ts = .d (.v (.bool b)) → holds env gs = some (r && (b == want)) → r = true → opG P tb y o gs = some (bs,y') →
      CaseB b (let s1:=s.put (some t) (.d (.v (.bool true))); if want = true then evOp P S p o s1 (fun s'=>evOps P S p ops rest s' k) else evOps P S p ops rest (s1.put o.dst (.tup [])) k)
       (let s1:=s.put (some t) (.d (.v (.bool false))); if want = true then evOps P S p ops rest (s1.put o.dst (.tup [])) k else evOp P S p o s1 (fun s'=>evOps P S p ops rest s' k)):=by
     intro c b gs r hc hl hh hr ho
     subst hr
     rw [Bool.true_and] at hh
     obtain ⟨h1,h2⟩:=opG_ok (k:=fun s'=>evOps P S p ops rest s' k) (p:=p) hS hI hw hd' hh ho hb
     cases b with
     | true =>
      simp only [caseB_true]
      rw [put_self hl (by simp)]
      cases want with
      | true=>exact h1 rfl
      | false=>exact h2 rfl
     | false =>
      simp only [caseB_false]
      rw [put_self hl (by simp)]
      cases want with
      | true=>exact h2 rfl
      | false=>exact h1 rfl
    split at h
    ·rename_i b hb0
     rw [hb0] at hlk
     simp only [InstV] at hlk
     obtain ⟨a,h1,h2⟩:=hlk
     cases h1
     rw [h2,encD_bool]
     simp only
     have hp:=put_self (s:=s) h2 (by simp)
     rw [encD_bool] at hp
     split at h
     ·rename_i e
      subst e
      have:=opS_ok (k:=fun s'=>evOps P S p ops rest s' k) (p:=p) hS hI hw hd' h hb
      cases b with
      | true=>simp only [caseB_true,if_true]; rw [hp]; exact this
      | false=>simp only [caseB_false,Bool.false_eq_true,if_false]; rw [hp]; exact this
     ·rename_i e
      cases h
      have:=hb _ (hI.put o.dst (show InstV env (.tup []) (.tup []) from ⟨[],rfl,rfl⟩))
      cases b with
      | true =>
       have hw' : want = false:=by cases want <;> simp_all
       simp only [caseB_true,hw',Bool.false_eq_true,if_false]; rw [hp]; exact this
      | false =>
       have hw' : want = true:=by cases want <;> simp_all
       simp only [caseB_false,hw',if_true]; rw [hp]; exact this
    ·rename_i c _ hb0
     rw [hb0] at hlk
     simp only [InstV] at hlk
     obtain ⟨b,h1,h2⟩:=hlk
     rw [h2,encD_bool]
     simp only
     rw [encD_bool] at h2
     exact known (r:=true) h1 h2 (by rw [holds_one (wantE_val want h1),Bool.true_and]) rfl h
    ·rename_i gs c hb0
     rw [hb0] at hlk
     simp only [InstV,typed] at hlk
     obtain ⟨r,h1,⟨b,h2⟩,h3,h4⟩:=hlk
     cases r with
     | true =>
      obtain ⟨b',h5,h6⟩:=h3 rfl
      rw [h2] at h5; cases h5
      rw [h6,encD_bool]
      simp only
      rw [encD_bool] at h6
      exact known (r:=true) h2 h6 (holds_snoc h1 (wantE_val want h2)) rfl h
     | false =>
      rw [h4 rfl]
      simp only
      have hh:=holds_snoc h1 (wantE_val want h2)
      rw [Bool.false_and] at hh
      exact (opG_ok (k:=fun s'=>evOps P S p ops rest s' k) (p:=p) hS hI hw hd' hh h hb).2 rfl
    ·rename_i hb0
     rw [hb0] at hlk
     simp only [InstV,InstL] at hlk
     obtain ⟨cc,h1,h2⟩:=hlk
     subst h2
     cases h
     rw [h1]
     simp only
     exact hb _ (hI.put o.dst (show InstV env (.tup []) (.tup []) from ⟨[],rfl,rfl⟩))
    ·cases h
   ·cases h
 ·cases h
end
end Go.Tx
namespace Go.Tx
set_option linter.unusedVariables false
set_option linter.unusedSimpArgs false
open Go Go.Ab
def sameEs : List E → List E → Bool
 | [],[]=>true
 | x :: xs,y :: ys=>x.same y && sameEs xs ys
 | _,_=>false
theorem sameEs_eq : ∀ {xs ys : List E},sameEs xs ys = true → xs = ys
 | [],[],_=>rfl
 | x :: xs,y :: ys,h=>by
  simp only [sameEs,Bool.and_eq_true] at h
  rw [E.same_eq h.1,sameEs_eq h.2]
 | [],_ :: _,h=>by simp [sameEs] at h
 | _ :: _,[],h=>by simp [sameEs] at h
mutual
def SV.same : SV → SV → Bool
 | .e t x,.e u y=>x.same y && decide (t = u)
 | .nil,.nil=>true
 | .own i a t x,.own j b u y=>decide (i = j) && Nat.beq a b && x.same y && decide (t = u)
 | .ptr n o,.ptr m p=>decide (n = m) && Nat.beq o p
 | .aptr n o m t i a,.aptr n' o' m' t' i' a'=>decide (n = n') && Nat.beq o o' && Nat.beq m m' && decide (t = t') && i.same i' && Nat.beq a a'
 | .ref t x o,.ref u y p=>x.same y && Nat.beq o p && decide (t = u)
 | .fn f c,.fn g d=>Nat.beq f g && SV.sameL c d
 | .yld l,.yld m=>decide (l = m)
 | .mref l,.mref m=>decide (l = m)
 | .mpc k t x,.mpc q u y=>decide (k = q) && x.same y && decide (t = u)
 | .agg c,.agg d=>SV.sameL c d
 | .mix t x os zs,.mix u y ps ws=>x.same y && decide (os = ps) && decide (t = u) && SV.sameL zs ws
 | .tup c,.tup d=>SV.sameL c d
 | .gd gs x,.gd hs y=>sameEs gs hs && SV.same x y
 | .vsl n,.vsl m=>decide (n = m)
 | .vpt n t i a,.vpt m u j b=>decide (n = m) && decide (t = u) && i.same j && Nat.beq a b
 | .dead,.dead=>true
 | _,_=>false
def SV.sameL : List SV → List SV → Bool
 | [],[]=>true
 | x :: xs,y :: ys=>SV.same x y && SV.sameL xs ys
 | _,_=>false
end
mutual
theorem SV.same_eq : ∀ (x : SV) {y : SV},x.same y = true → x = y:=by
 intro x y h
 cases x with
 | e t x=>cases y <;> simp only [SV.same,Bool.false_eq_true,Bool.and_eq_true,decide_eq_true_eq] at h; rw [E.same_eq h.1,h.2]
 | nil=>cases y <;> first | rfl | (simp only [SV.same,Bool.false_eq_true] at h)
 | own i a t x=>cases y <;> simp only [SV.same,Bool.false_eq_true,Bool.and_eq_true,decide_eq_true_eq] at h; rw [h.1.1.1,Nat.eq_of_beq_eq_true h.1.1.2,E.same_eq h.1.2,h.2]
 | ptr n o=>cases y <;> simp only [SV.same,Bool.false_eq_true,Bool.and_eq_true,decide_eq_true_eq] at h; rw [h.1,Nat.eq_of_beq_eq_true h.2]
 | aptr n o m t i a =>
  cases y <;> simp only [SV.same,Bool.false_eq_true,Bool.and_eq_true,decide_eq_true_eq] at h
  obtain ⟨⟨⟨⟨⟨h1,h2⟩,h3⟩,h4⟩,h5⟩,h6⟩:=h
  rw [h1,Nat.eq_of_beq_eq_true h2,Nat.eq_of_beq_eq_true h3,h4,E.same_eq h5,Nat.eq_of_beq_eq_true h6]
 | ref t x o=>cases y <;> simp only [SV.same,Bool.false_eq_true,Bool.and_eq_true,decide_eq_true_eq] at h; rw [E.same_eq h.1.1,Nat.eq_of_beq_eq_true h.1.2,h.2]
 | fn f c=>cases y <;> simp only [SV.same,Bool.false_eq_true,Bool.and_eq_true] at h; rw [Nat.eq_of_beq_eq_true h.1,SV.sameL_eq c h.2]
 | yld l=>cases y <;> simp only [SV.same,Bool.false_eq_true,decide_eq_true_eq] at h; rw [h]
 | vsl l=>cases y <;> simp only [SV.same,Bool.false_eq_true,decide_eq_true_eq] at h; rw [h]
 | vpt n t i a =>
  cases y <;> simp only [SV.same,Bool.false_eq_true,Bool.and_eq_true,decide_eq_true_eq] at h
  obtain ⟨⟨⟨h1,h2⟩,h3⟩,h4⟩:=h
  rw [h1,h2,E.same_eq h3,Nat.eq_of_beq_eq_true h4]
 | mref l=>cases y <;> simp only [SV.same,Bool.false_eq_true,decide_eq_true_eq] at h; rw [h]
 | mpc k t x=>cases y <;> simp only [SV.same,Bool.false_eq_true,Bool.and_eq_true,decide_eq_true_eq] at h; rw [h.1.1,E.same_eq h.1.2,h.2]
 | agg c=>cases y <;> simp only [SV.same,Bool.false_eq_true] at h; rw [SV.sameL_eq c h]
 | mix t x os zs=>cases y <;> simp only [SV.same,Bool.false_eq_true,Bool.and_eq_true,decide_eq_true_eq] at h; rw [E.same_eq h.1.1.1,h.1.1.2,h.1.2,SV.sameL_eq zs h.2]
 | tup c=>cases y <;> simp only [SV.same,Bool.false_eq_true] at h; rw [SV.sameL_eq c h]
 | kd c=>cases y <;> simp only [SV.same,Bool.false_eq_true] at h
 | gd gs x=>cases y <;> simp only [SV.same,Bool.false_eq_true,Bool.and_eq_true] at h; rw [sameEs_eq h.1,SV.same_eq x h.2]
 | dead=>cases y <;> first | rfl | (simp only [SV.same,Bool.false_eq_true] at h)
theorem SV.sameL_eq : ∀ (xs : List SV) {ys : List SV},SV.sameL xs ys = true → xs = ys:=by
 intro xs ys h
 cases xs with
 | nil=>cases ys <;> first | rfl | (simp only [SV.sameL,Bool.false_eq_true] at h)
 | cons x xs =>
  cases ys with
  | nil=>simp only [SV.sameL,Bool.false_eq_true] at h
  | cons y ys=>simp only [SV.sameL,Bool.and_eq_true] at h; rw [SV.same_eq x h.1,SV.sameL_eq xs h.2]
end
def ltEs (n : Nat) (gs : List E) : Bool:=gs.all (·.lt n)
mutual
def SV.lt (n : Nat) : SV → Bool
 | .e _ x=>x.lt n
 | .own _ _ _ x=>x.lt n
 | .aptr _ _ _ _ i _=>i.lt n
 | .vpt _ _ i _=>i.lt n
 | .ref _ x _=>x.lt n
 | .fn _ c=>SV.ltL n c
 | .mpc _ _ x=>x.lt n
 | .agg c=>SV.ltL n c
 | .mix _ x _ zs=>x.lt n && SV.ltL n zs
 | .tup c=>SV.ltL n c
 | .gd gs x=>ltEs n gs && SV.lt n x
 | _=>true
def SV.ltL (n : Nat) : List SV → Bool
 | []=>true
 | x :: xs=>SV.lt n x && SV.ltL n xs
end
theorem holds_lt {env : List Val} (l : List Val) : ∀ {gs : List E},ltEs env.length gs = true → holds (env ++ l) gs = holds env gs
 | [],_=>rfl
 | g :: gs,h=>by
  simp only [ltEs,List.all_cons,Bool.and_eq_true] at h
  simp only [holds,E.val_lt l h.1,holds_lt l (gs:=gs) h.2]
theorem typed_lt {env : List Val} (l : List Val) {x : SV} (h : SV.lt env.length x = true) (ht : typed (env ++ l) x) : typed env x:=by
 cases x <;> simp only [typed,SV.lt] at h ht ⊢
 all_goals (rw [E.val_lt l h] at ht; exact ht)
mutual
theorem InstV.lt {env : List Val} (l : List Val) : ∀ {x : SV} {v : V},x.lt env.length = true → InstV (env ++ l) x v → InstV env x v
 | .e t x,v,h,hv=>by simp only [InstV,SV.lt] at h hv ⊢; rw [E.val_lt l h] at hv; exact hv
 | .nil,v,h,hv=>hv
 | .own id sz t x,v,h,hv=>by simp only [InstV,SV.lt] at h hv ⊢; rw [E.val_lt l h] at hv; exact hv
 | .ptr n off,v,h,hv=>hv
 | .aptr n off m t i inn,v,h,hv=>by simp only [InstV,SV.lt] at h hv ⊢; rw [E.val_lt l h] at hv; exact hv
 | .ref t x off,v,h,hv=>by simp only [InstV,SV.lt] at h hv ⊢; rw [E.val_lt l h] at hv; exact hv
 | .fn f cap,v,h,hv=>by simp only [InstV,SV.lt] at h hv ⊢; obtain ⟨c,h1,h2⟩:=hv; exact ⟨c,h1,InstL.lt l h h2⟩
 | .yld n,v,h,hv=>hv
 | .vsl n,v,h,hv=>hv
 | .vpt n t i inn,v,h,hv=>by simp only [InstV,SV.lt] at h hv ⊢; rw [E.val_lt l h] at hv; exact hv
 | .mref n,v,h,hv=>hv
 | .mpc k t x,v,h,hv=>by simp only [InstV,SV.lt] at h hv ⊢; rw [E.val_lt l h] at hv; exact hv
 | .agg cs,v,h,hv=>by simp only [InstV,SV.lt] at h hv ⊢; obtain ⟨c,h1,h2⟩:=hv; exact ⟨c,h1,InstL.lt l h h2⟩
 | .mix t x os zs,v,h,hv=>by
  simp only [InstV,SV.lt,Bool.and_eq_true] at h hv ⊢
  rw [E.val_lt l h.1] at hv
  obtain ⟨a,c,h1,h2,h3,h4,h5⟩:=hv
  exact ⟨a,c,h1,h2,h3,InstP.lt l h.2 h4,h5⟩
 | .tup cs,v,h,hv=>by simp only [InstV,SV.lt] at h hv ⊢; obtain ⟨c,h1,h2⟩:=hv; exact ⟨c,h1,InstL.lt l h h2⟩
 | .kd cs,v,h,hv=>hv
 | .gd gs x,v,h,hv=>by
  simp only [InstV,SV.lt,Bool.and_eq_true] at h hv ⊢
  rw [holds_lt l h.1] at hv
  obtain ⟨b,h1,h0,h2,h3⟩:=hv
  exact ⟨b,h1,typed_lt l h.2 h0,fun e=>InstV.lt l h.2 (h2 e),h3⟩
 | .dead,v,h,hv=>hv
theorem InstL.lt {env : List Val} (l : List Val) : ∀ {xs : List SV} {vs : List V},SV.ltL env.length xs = true → InstL (env ++ l) xs vs → InstL env xs vs
 | [],vs,h,hv=>hv
 | x :: xs,vs,h,hv=>by
  simp only [InstL,SV.ltL,Bool.and_eq_true] at h hv ⊢
  obtain ⟨v,vs',h1,h2,h3⟩:=hv
  exact ⟨v,vs',h1,InstV.lt l h.1 h2,InstL.lt l h.2 h3⟩
theorem InstP.lt {env : List Val} (l : List Val) : ∀ {zs : List SV} {os : List Nat} {c : List V},SV.ltL env.length zs = true → InstP (env ++ l) os zs c → InstP env os zs c
 | [],os,c,h,hv=>hv
 | z :: zs,os,c,h,hv=>by
  simp only [InstP,SV.ltL,Bool.and_eq_true] at h hv ⊢
  obtain ⟨i,os',h1,⟨v,h2,h3⟩,h4⟩:=hv
  exact ⟨i,os',h1,⟨v,h2,InstV.lt l h.1 h3⟩,InstP.lt l h.2 h4⟩
end
end Go.Tx
namespace Go.Tx
set_option linter.unusedVariables false
set_option linter.unusedSimpArgs false
open Go Go.Ab
mutual
def SV.soft (i : Name) (u : Ty) (q : E) : SV → SV
 | .own j sz t x=>if j = i then .e (.sl t) x else .own j sz t x
 | .vsl n=>if n = i then .own i u.size u q else .vsl n
 | .vpt n t x inn=>if n = i then .dead else .vpt n t x inn
 | .fn f c=>.fn f (SV.softL i u q c)
 | .agg c=>.agg (SV.softL i u q c)
 | .mix t x os zs=>.mix t x os (SV.softL i u q zs)
 | .tup c=>.tup (SV.softL i u q c)
 | .gd gs x=>.gd gs (SV.soft i u q x)
 | x=>x
def SV.softL (i : Name) (u : Ty) (q : E) : List SV → List SV
 | []=>[]
 | v :: vs=>SV.soft i u q v :: SV.softL i u q vs
end
def Sy.soft (i : Name) (y : Sy) : Sy:=match lookN i y.vc with
 | some (u,q)=>{ y with ts:=y.ts.map fun z=>(z.1,z.2.soft i u q),sv:=y.sv.map (fun (f : SFr)=>{ f with ts:=f.ts.map fun z=>(z.1,z.2.soft i u q) }),bx:=y.bx.map (fun x=>(x.1,x.2.soft i u q)),vc:=y.vc.filter (fun x=>x.1 != i) }
 | none=>y
section
variable {env : List Val} {u : Ty} {q : E} {a : List u.den}
theorem typed_soft (hq : q.val env = some ⟨.sl u,a⟩) {i : Name} {x : SV} (h : typed env x) : typed env (SV.soft i u q x):=by
 cases x <;> simp only [SV.soft] <;> try exact h
 ·split
  ·simp only [typed] at h ⊢; exact h
  ·exact h
 ·split
  ·exact ⟨a,hq⟩
  ·simp [typed]
 ·split <;> simp [typed]
mutual
theorem InstV.soft (hq : q.val env = some ⟨.sl u,a⟩) (i : Name) : ∀ {x : SV} {v : V},InstV env x v → InstV env (x.soft i u q) (v.soft i u.size (a.map (encD u)))
 | .e t x,v,h=>by simp only [InstV,SV.soft] at h ⊢; obtain ⟨a,h1,rfl⟩:=h; exact ⟨a,h1,rfl⟩
 | .nil,v,h=>by simp only [InstV] at h; subst h; simp [SV.soft,V.soft,InstV]
 | .own j sz t x,v,h=>by
  simp only [InstV] at h
  obtain ⟨a,h1,h2,rfl⟩:=h
  simp only [SV.soft,V.soft]
  split
  ·simp only [InstV]; exact ⟨a,h1,rfl⟩
  ·simp only [InstV]; exact ⟨a,h1,h2,rfl⟩
 | .ptr n off,v,h=>by simp only [InstV] at h; subst h; simp [SV.soft,V.soft,InstV]
 | .aptr n off m t e inn,v,h=>by simp only [InstV,SV.soft] at h ⊢; obtain ⟨k,j,h1,h2,h3,rfl⟩:=h; exact ⟨k,j,h1,h2,h3,rfl⟩
 | .ref t x off,v,h=>by simp only [InstV,SV.soft] at h ⊢; obtain ⟨a,cs,h1,rfl,h2⟩:=h; exact ⟨a,cs,h1,rfl,h2⟩
 | .fn f cap,v,h=>by simp only [InstV,SV.soft] at h ⊢; obtain ⟨c,rfl,h2⟩:=h; exact ⟨_,rfl,InstL.soft hq i h2⟩
 | .yld l,v,h=>by simp only [InstV] at h; subst h; simp [SV.soft,V.soft,InstV]
 | .mref n,v,h=>by simp only [InstV] at h; subst h; simp [SV.soft,V.soft,InstV]
 | .mpc k t x,v,h=>by simp only [InstV,SV.soft] at h ⊢; obtain ⟨a,kvs,h1,rfl,h2⟩:=h; exact ⟨a,kvs,h1,rfl,h2⟩
 | .agg cs,v,h=>by simp only [InstV,SV.soft] at h ⊢; obtain ⟨c,rfl,h2⟩:=h; exact ⟨_,rfl,InstL.soft hq i h2⟩
 | .mix t x os zs,v,h=>by
  simp only [InstV,SV.soft] at h ⊢
  obtain ⟨b,c,h1,rfl,h3,h4,h5⟩:=h
  refine ⟨b,V.softL i u.size (a.map (encD u)) c,h1,rfl,by rw [V.softL_map,List.length_map]; exact h3,InstP.soft hq i h4,fun j hj hn=>?_⟩
  rw [V.softL_map,List.getElem?_map,h5 j hj hn]
  cases (enc t b)[j]? <;> rfl
 | .tup cs,v,h=>by simp only [InstV,SV.soft] at h ⊢; obtain ⟨c,rfl,h2⟩:=h; exact ⟨_,rfl,InstL.soft hq i h2⟩
 | .kd cs,v,h=>by simp only [InstV] at h; subst h; simp [SV.soft,V.soft,InstV]
 | .gd gs x,v,h=>by
  simp only [InstV,SV.soft] at h ⊢
  obtain ⟨b,h1,h0,h2,h3⟩:=h
  refine ⟨b,h1,typed_soft hq h0,fun e=>InstV.soft hq i (h2 e),fun e=>?_⟩
  rw [h3 e]; rfl
 | .vsl n,v,h=>by
  simp only [InstV] at h; subst h
  simp only [SV.soft,V.soft]
  split
  ·simp only [InstV]; exact ⟨a,hq,trivial,rfl⟩
  ·simp [InstV]
 | .vpt n t x inn,v,h=>by
  simp only [InstV] at h
  obtain ⟨k,j,h1,h2,rfl⟩:=h
  simp only [SV.soft,V.soft]
  split
  ·simp [InstV]
  ·simp only [InstV]; exact ⟨k,j,h1,h2,rfl⟩
 | .dead,v,h=>by simp only [InstV] at h; subst h; simp [SV.soft,V.soft,InstV]
theorem InstL.soft (hq : q.val env = some ⟨.sl u,a⟩) (i : Name) : ∀ {xs : List SV} {vs : List V},InstL env xs vs → InstL env (SV.softL i u q xs) (V.softL i u.size (a.map (encD u)) vs)
 | [],vs,h=>by simp only [InstL] at h; subst h; simp [SV.softL,V.softL,InstL]
 | x :: xs,vs,h=>by
  simp only [InstL] at h
  obtain ⟨v,vs',rfl,h2,h3⟩:=h
  simp only [SV.softL,V.softL,InstL]
  exact ⟨_,_,rfl,InstV.soft hq i h2,InstL.soft hq i h3⟩
theorem InstP.soft (hq : q.val env = some ⟨.sl u,a⟩) (i : Name) : ∀ {zs : List SV} {os : List Nat} {c : List V},InstP env os zs c → InstP env os (SV.softL i u q zs) (V.softL i u.size (a.map (encD u)) c)
 | [],os,c,h=>h
 | z :: zs,os,c,h=>by
  simp only [InstP,SV.softL] at h ⊢
  obtain ⟨j,os',h1,⟨v,h2,h3⟩,h4⟩:=h
  exact ⟨j,os',h1,⟨v.soft i u.size (a.map (encD u)),by rw [V.softL_map,List.getElem?_map,h2]; rfl,InstV.soft hq i h3⟩,InstP.soft hq i h4⟩
end
end
theorem Inst.soft {env : List Val} {y : Sy} {s : Sa} (h : Inst env y s) (i : Name) : Inst env (y.soft i) (s.soft i):=by
 unfold Sy.soft Sa.soft
 cases hl : lookN i y.vc with
 | none=>rw [(h.vc.look).2 hl]; exact h
 | some c =>
  obtain ⟨u,q⟩:=c
  obtain ⟨a,h1,h2⟩:=(h.vc.look).1 hl
  rw [h2]
  exact ⟨h.g,h.rd,h.n,h.ts.map (fun _ _ h=>InstV.soft h1 i h),h.sv.map (fun _ _ h=>InstV.soft h1 i h),h.bx.map (fun _ _ h=>InstV.soft h1 i h),h.lp,h.ow,h.vc.filter (q:=fun j=>j != i)⟩
theorem Sy.soft_lp {i : Name} {y : Sy} : (y.soft i).lp = y.lp:=by unfold Sy.soft; split <;> rfl
theorem Sy.soft_g {i : Name} {y : Sy} : (y.soft i).g = y.g:=by unfold Sy.soft; split <;> rfl
def softAll (ids : List Name) (y : Sy) : Sy:=ids.foldl (fun y i=>y.soft i) y
end Go.Tx
namespace Go.Tx
set_option linter.unusedVariables false
set_option linter.unusedSimpArgs false
open Go Go.Ab
def parV (n0 : Nat) (args : List E) (x : E) : E → Bool
 | .var i=>Nat.ble n0 i && (match args[i - n0]? with | some y=>x.same y | none=>false)
 | _=>false
mutual
def fitV (n0 : Nat) (args : List E) (z : SV) (zJ : SV) : Bool :=
 (z.same zJ && z.lt n0) || (match z with
 | .e t x=>(match zJ with | .e u y=>decide (t = u) && parV n0 args x y | _=>false)
 | .own i a t x=>(match zJ with | .own j b u y=>decide (i = j) && Nat.beq a b && decide (t = u) && parV n0 args x y | _=>false)
 | .mpc k t x=>(match zJ with | .mpc q u y=>decide (k = q) && decide (t = u) && parV n0 args x y | _=>false)
 | .ref t x a=>(match zJ with | .ref u y b=>decide (t = u) && Nat.beq a b && parV n0 args x y | _=>false)
 | .agg cs=>(match zJ with | .agg ds=>fitL n0 args cs ds | _=>false)
 | .mix t x os zs=>(match zJ with | .mix u y ps ws=>decide (t = u) && decide (os = ps) && (parV n0 args x y || (x.same y && x.lt n0)) && fitL n0 args zs ws | _=>false)
 | .fn f cs=>(match zJ with | .fn g ds=>Nat.beq f g && fitL n0 args cs ds | _=>false)
 | _=>false)
def fitL (n0 : Nat) (args : List E) (zs : List SV) (zJs : List SV) : Bool:=match zs with
 | []=>(match zJs with | []=>true | _=>false)
 | x :: xs=>(match zJs with | y :: ys=>fitV n0 args x y && fitL n0 args xs ys | _=>false)
end
theorem evs_get {env : List Val} : ∀ {es : List E} {vs : List Val},evs env es = some vs → ∀ {i : Nat} {x : E},es[i]? = some x → ∃ v,vs[i]? = some v ∧ x.val env = some v
 | [],vs,h,i,x,hx=>by simp at hx
 | e :: es,vs,h,i,x,hx=>by
  simp only [evs] at h
  split at h
  ·rename_i v vs' h1 h2
   cases h
   cases i with
   | zero=>simp at hx; subst hx; exact ⟨v,by simp,h1⟩
   | succ i=>simpa using evs_get h2 (by simpa using hx)
  ·cases h
theorem parV_ok {env0 l : List Val} {args : List E} {vs : List Val} (hv : evs (env0 ++ l) args = some vs) {x y : E} {v : Val} (h : parV env0.length args x y = true) (hx : x.val (env0 ++ l) = some v) : y.val (env0 ++ vs) = some v:=by
 unfold parV at h
 split at h
 ·rename_i i
  simp only [Bool.and_eq_true] at h
  obtain ⟨h1,h2⟩:=h
  have hle:=Nat.le_of_ble_eq_true h1
  split at h2
  ·rename_i y' hy
   have:=E.same_eq h2
   subst this
   obtain ⟨w,g1,g2⟩:=evs_get hv hy
   rw [hx] at g2; cases g2
   simp only [E.val]
   rw [List.getElem?_append_right hle]; exact g1
  ·cases h2
 ·cases h
mutual
theorem fitV_ok {env0 l : List Val} {args : List E} {vs : List Val} (hv : evs (env0 ++ l) args = some vs) : ∀ (z : SV) {zJ : SV} {v : V},fitV env0.length args z zJ = true → InstV (env0 ++ l) z v → InstV (env0 ++ vs) zJ v:=by
 intro z zJ v h hz
 rw [fitV.eq_def,Bool.or_eq_true] at h
 rcases h with h | h
 ·simp only [Bool.and_eq_true] at h
  have:=SV.same_eq _ h.1
  subst this
  exact (InstV.lt l h.2 hz).app vs
 ·cases z with
  | e t x =>
   cases zJ with
   | e u y =>
    simp only [Bool.and_eq_true,decide_eq_true_eq] at h
    obtain ⟨rfl,h⟩:=h
    simp only [InstV] at hz ⊢
    obtain ⟨a,h1,h2⟩:=hz
    exact ⟨a,parV_ok hv h h1,h2⟩
   | _=>simp at h
  | own i a t x =>
   cases zJ with
   | own j b u y =>
    simp only [Bool.and_eq_true,decide_eq_true_eq] at h
    obtain ⟨⟨⟨rfl,hab⟩,rfl⟩,h⟩:=h
    have:=Nat.eq_of_beq_eq_true hab
    subst this
    simp only [InstV] at hz ⊢
    obtain ⟨c,h1,h2⟩:=hz
    exact ⟨c,parV_ok hv h h1,h2⟩
   | _=>simp at h
  | mpc k t x =>
   cases zJ with
   | mpc q u y =>
    simp only [Bool.and_eq_true,decide_eq_true_eq] at h
    obtain ⟨⟨rfl,rfl⟩,h⟩:=h
    simp only [InstV] at hz ⊢
    obtain ⟨c,kvs,h1,h2⟩:=hz
    exact ⟨c,kvs,parV_ok hv h h1,h2⟩
   | _=>simp at h
  | ref t x a =>
   cases zJ with
   | ref u y b =>
    simp only [Bool.and_eq_true,decide_eq_true_eq] at h
    obtain ⟨⟨rfl,hab⟩,h⟩:=h
    have:=Nat.eq_of_beq_eq_true hab
    subst this
    simp only [InstV] at hz ⊢
    obtain ⟨c,cs,h1,h2⟩:=hz
    exact ⟨c,cs,parV_ok hv h h1,h2⟩
   | _=>simp at h
  | agg cs =>
   cases zJ with
   | agg ds =>
    simp only [InstV] at hz ⊢
    obtain ⟨c,h1,h2⟩:=hz
    exact ⟨c,h1,fitL_ok hv cs h h2⟩
   | _=>simp at h
  | mix t x os zs =>
   cases zJ with
   | mix u y ps ws =>
    simp only [Bool.and_eq_true,Bool.or_eq_true,decide_eq_true_eq] at h
    obtain ⟨⟨⟨rfl,rfl⟩,hb⟩,hf⟩:=h
    simp only [InstV] at hz ⊢
    obtain ⟨a,c,h1,h2,h3,h4,h5⟩:=hz
    refine ⟨a,c,?_,h2,h3,fitP_ok hv zs hf h4,h5⟩
    rcases hb with hb | hb
    ·exact parV_ok hv hb h1
    ·have:=E.same_eq hb.1
     subst this
     rw [E.val_lt l hb.2] at h1
     exact E.val_app vs h1
   | _=>simp at h
  | fn f cs =>
   cases zJ with
   | fn g ds =>
    simp only [Bool.and_eq_true] at h
    have:=Nat.eq_of_beq_eq_true h.1
    subst this
    simp only [InstV] at hz ⊢
    obtain ⟨c,h1,h2⟩:=hz
    exact ⟨c,h1,fitL_ok hv cs h.2 h2⟩
   | _=>simp at h
  | _=>simp at h
theorem fitL_ok {env0 l : List Val} {args : List E} {vs : List Val} (hv : evs (env0 ++ l) args = some vs) : ∀ (zs : List SV) {zJs : List SV} {us : List V},fitL env0.length args zs zJs = true → InstL (env0 ++ l) zs us → InstL (env0 ++ vs) zJs us:=by
 intro zs zJs us h hz
 cases zs with
 | nil =>
  cases zJs with
  | nil=>exact hz
  | cons y ys=>simp [fitL] at h
 | cons x xs =>
  cases zJs with
  | nil=>simp [fitL] at h
  | cons y ys =>
   simp only [fitL,Bool.and_eq_true] at h
   simp only [InstL] at hz ⊢
   obtain ⟨v,vs',h1,h2,h3⟩:=hz
   exact ⟨v,vs',h1,fitV_ok hv x h.1 h2,fitL_ok hv xs h.2 h3⟩
theorem fitP_ok {env0 l : List Val} {args : List E} {vs : List Val} (hv : evs (env0 ++ l) args = some vs) : ∀ (zs : List SV) {ws : List SV} {os : List Nat} {c : List V},fitL env0.length args zs ws = true → InstP (env0 ++ l) os zs c → InstP (env0 ++ vs) os ws c:=by
 intro zs ws os c h hz
 cases zs with
 | nil =>
  cases ws with
  | nil=>exact hz
  | cons y ys=>simp [fitL] at h
 | cons x xs =>
  cases ws with
  | nil=>simp [fitL] at h
  | cons y ys =>
   simp only [fitL,Bool.and_eq_true] at h
   simp only [InstP] at hz ⊢
   obtain ⟨i,os',h1,⟨v,h2,h3⟩,h4⟩:=hz
   exact ⟨i,os',h1,⟨v,h2,fitV_ok hv x h.1 h3⟩,fitP_ok hv xs h.2 h4⟩
end
def fitT (n0 : Nat) (args : List E) (ts : List (Nat × SV)) : List (Nat × SV) → Bool
 | []=>true
 | (t,z) :: l=>fitV n0 args (lkS t ts) z && fitT n0 args ts l
def fitB (n0 : Nat) (args : List E) (bx : List (Name × SV)) : List (Name × SV) → Bool
 | []=>true
 | (n,z) :: l=>(match lookN n bx with | some y=>fitV n0 args y z | none=>false) && fitB n0 args bx l
def sameK (n0 : Nat) : List (Nat × SV) → List (Nat × SV) → Bool
 | [],[]=>true
 | (a,x) :: l,(b,y) :: m=>Nat.beq a b && x.same y && x.lt n0 && sameK n0 l m
 | _,_=>false
def sameF (n0 : Nat) : List SFr → List SFr → Bool
 | [],[]=>true
 | f :: fs,g :: gs=>decide (f.rd = g.rd) && Nat.beq f.n g.n && sameK n0 f.ts g.ts && sameF n0 fs gs
 | _,_=>false
def jmpB : Option (Option Code) → Option (Option Code) → Bool
 | none,none=>true
 | some none,some none=>true
 | some (some (.exit i)),some (some (.exit j))=>Nat.beq i j
 | some (some .ret),some (some .ret)=>true
 | _,_=>false
def lpB : List (Name × Lp) → List (Name × Lp) → Bool
 | [],[]=>true
 | (n,p) :: l,(m,q) :: k=>decide (n = m) && jmpB p.pending q.pending && lpB l k
 | _,_=>false
def fitC (n0 : Nat) (args : List E) (vc : List (Name × Ty × E)) : List (Name × Ty × E) → Bool
 | []=>true
 | (n,t,x) :: l=>(match lookN n vc with | some (u,y)=>decide (u = t) && ((y.same x && y.lt n0) || parV n0 args y x) | none=>false) && fitC n0 args vc l
def fitsY (n0 : Nat) (args : List E) (y yJ : Sy) : Bool :=
 decide (y.rd = yJ.rd) && Nat.beq y.n yJ.n && fitT n0 args y.ts yJ.ts && sameF n0 y.sv yJ.sv && fitB n0 args y.bx yJ.bx && lpB y.lp yJ.lp && yJ.ow.all (fun i=>y.ow.contains i) && fitC n0 args y.vc yJ.vc && yJ.vc.all (fun c=>yJ.ow.contains c.1)
theorem jmpB_eq {a b : Option (Option Code)} (h : jmpB a b = true) : a = b:=by
 unfold jmpB at h
 split at h <;> first | rfl | (rw [Nat.eq_of_beq_eq_true h]) | cases h
def lpS (l : List (Name × Lp)) : List (Name × (Nat × Array Tmp × Code × Code)):=l.map fun x=>(x.1,x.2.depth,x.2.ps,x.2.assign,x.2.body)
theorem lpB_eq : ∀ {l k : List (Name × Lp)},lpB l k = true → lpS l = lpS k → l = k
 | [],[],_,_=>rfl
 | (n,p) :: l,(m,q) :: k,h,hs=>by
  simp only [lpB,Bool.and_eq_true,decide_eq_true_eq] at h
  simp only [lpS,List.map_cons,List.cons.injEq,Prod.mk.injEq] at hs
  obtain ⟨⟨h1,h2⟩,h3⟩:=h
  obtain ⟨⟨_,s1,s2,s3,s4⟩,s5⟩:=hs
  have e : p = q:=by
   obtain ⟨d,ps,a,b,pd⟩:=p
   obtain ⟨d',ps',a',b',pd'⟩:=q
   simp only at s1 s2 s3 s4 h2
   rw [s1,s2,s3,s4,jmpB_eq h2]
  rw [h1,e,lpB_eq h3 s5]
 | [],_ :: _,h,_=>by simp [lpB] at h
 | _ :: _,[],h,_=>by simp [lpB] at h
theorem sameK_ok {env0 l vs : List Val} : ∀ {xs ys : List (Nat × SV)} {us : List (Nat × V)},sameK env0.length xs ys = true → InstK (env0 ++ l) xs us → InstK (env0 ++ vs) ys us
 | [],[],us,h,hz=>hz
 | (a,x) :: xs,(b,y) :: ys,us,h,hz=>by
  simp only [sameK,Bool.and_eq_true] at h
  obtain ⟨⟨⟨h1,h2⟩,h3⟩,h4⟩:=h
  have e1:=Nat.eq_of_beq_eq_true h1
  have e2:=SV.same_eq _ h2
  subst e1; subst e2
  simp only [InstK] at hz ⊢
  obtain ⟨v,vs',g1,g2,g3⟩:=hz
  exact ⟨v,vs',g1,(InstV.lt l h3 g2).app vs,sameK_ok h4 g3⟩
 | [],_ :: _,_,h,_=>by simp [sameK] at h
 | _ :: _,[],_,h,_=>by simp [sameK] at h
theorem sameF_ok {env0 l vs : List Val} : ∀ {xs ys : List SFr} {us : List Fr},sameF env0.length xs ys = true → InstF (env0 ++ l) xs us → InstF (env0 ++ vs) ys us
 | [],[],us,h,hz=>hz
 | f :: xs,g :: ys,us,h,hz=>by
  simp only [sameF,Bool.and_eq_true,decide_eq_true_eq] at h
  obtain ⟨⟨⟨h1,h2⟩,h3⟩,h4⟩:=h
  have e2:=Nat.eq_of_beq_eq_true h2
  simp only [InstF] at hz ⊢
  obtain ⟨v,vs',g1,g2,g3,g4,g5⟩:=hz
  exact ⟨v,vs',g1,by rw [g2,h1],by rw [g3,e2],sameK_ok h3 g4,sameF_ok h4 g5⟩
 | [],_ :: _,_,h,_=>by simp [sameF] at h
 | _ :: _,[],_,h,_=>by simp [sameF] at h
theorem fitT_ok {env0 l : List Val} {args : List E} {vs : List Val} (hv : evs (env0 ++ l) args = some vs) {ts : List (Nat × SV)} {us : List (Nat × V)} (hi : InstK (env0 ++ l) ts us) : ∀ {js : List (Nat × SV)},fitT env0.length args ts js = true →
  InstK (env0 ++ vs) js (js.map fun x=>(x.1,lkT x.1 us))
 | [],_=>rfl
 | (t,z) :: js,h=>by
  simp only [fitT,Bool.and_eq_true] at h
  exact ⟨_,_,rfl,fitV_ok hv _ h.1 hi.lk,fitT_ok hv hi h.2⟩
theorem fitB_ok {env0 l : List Val} {args : List E} {vs : List Val} (hv : evs (env0 ++ l) args = some vs) {bx : List (Name × SV)} {us : List (Name × V)} (hi : InstK (env0 ++ l) bx us) : ∀ {js : List (Name × SV)},fitB env0.length args bx js = true →
  InstK (env0 ++ vs) js (js.map fun x=>(x.1,(lookN x.1 us).getD .dead)) ∧ ∀ x ∈ js.map (fun x=>(x.1,(lookN x.1 us).getD V.dead)),lookN x.1 us = some x.2
 | [],_=>⟨rfl,by simp⟩
 | (n,z) :: js,h=>by
  simp only [fitB,Bool.and_eq_true] at h
  obtain ⟨h1,h2⟩:=h
  split at h1
  ·rename_i y hy
   obtain ⟨v,e1,e2⟩:=(hi.look (n:=n)).1 hy
   obtain ⟨r1,r2⟩:=fitB_ok hv hi h2
   refine ⟨⟨_,_,rfl,by rw [e1]; exact fitV_ok hv _ h1 e2,r1⟩,?_⟩
   intro x hx
   rw [List.map_cons] at hx
   rcases List.mem_cons.1 hx with rfl | hx
   ·simp only [e1,Option.getD_some]
   ·exact r2 x hx
  ·cases h1
theorem fitC_ok {env0 l : List Val} {args : List E} {vs : List Val} (hv : evs (env0 ++ l) args = some vs) {vc : List (Name × Ty × E)} {us : List (Name × Nat × List D)} (hi : InstC (env0 ++ l) vc us) : ∀ {js : List (Name × Ty × E)},fitC env0.length args vc js = true →
  InstC (env0 ++ vs) js (js.map fun x=>(x.1,(lookN x.1 us).getD default)) ∧ ∀ x ∈ js.map (fun x=>(x.1,(lookN x.1 us).getD default)),lookN x.1 us = some x.2
 | [],_=>⟨rfl,by simp⟩
 | (n,t,x) :: js,h=>by
  simp only [fitC,Bool.and_eq_true] at h
  obtain ⟨h1,h2⟩:=h
  split at h1
  ·rename_i u y hy
   simp only [Bool.and_eq_true,Bool.or_eq_true,decide_eq_true_eq] at h1
   obtain ⟨rfl,h1⟩:=h1
   obtain ⟨a,e1,e2⟩:=(hi.look (n:=n)).1 hy
   obtain ⟨r1,r2⟩:=fitC_ok hv hi h2
   refine ⟨⟨a,_,?_,?_,r1⟩,?_⟩
   ·simp only [List.map_cons,e2,Option.getD_some]
   ·rcases h1 with h1 | h1
    ·have:=E.same_eq h1.1
     subst this
     rw [E.val_lt l h1.2] at e1
     exact E.val_app vs e1
    ·exact parV_ok hv h1 e1
   ·intro z hz
    rw [List.map_cons] at hz
    rcases List.mem_cons.1 hz with rfl | hz
    ·simp only [e2,Option.getD_some]
    ·exact r2 z hz
  ·cases h1
theorem fitsY_ok {env0 l : List Val} {args : List E} {vs : List Val} {y yJ : Sy} {s : Sa} (hf : fitsY env0.length args y yJ = true) (hl : lpS y.lp = lpS yJ.lp) (hI : Inst (env0 ++ l) y s) (hv : evs (env0 ++ l) args = some vs)
  (hg : (env0 ++ vs).map (·.1) = yJ.g) : ∃ s',Wk s s' ∧ Inst (env0 ++ vs) yJ s':=by
 simp only [fitsY,Bool.and_eq_true,decide_eq_true_eq] at hf
 obtain ⟨⟨⟨⟨⟨⟨⟨⟨h1,h2⟩,h3⟩,h4⟩,h5⟩,h6⟩,h7⟩,h8⟩,h9⟩:=hf
 have e2:=Nat.eq_of_beq_eq_true h2
 have e6:=lpB_eq h6 hl
 obtain ⟨b1,b2⟩:=fitB_ok hv hI.bx h5
 obtain ⟨c1,c2⟩:=fitC_ok hv hI.vc h8
 refine ⟨{ s with ts:=yJ.ts.map fun x=>(x.1,lkT x.1 s.ts),bx:=yJ.bx.map fun x=>(x.1,(lookN x.1 s.bx).getD .dead),ow:=yJ.ow,vc:=yJ.vc.map fun x=>(x.1,(lookN x.1 s.vc).getD default) },?_,?_⟩
 ·refine Wk.lists rfl rfl rfl (fun x hx=>?_) rfl (fun x hx=>b2 x hx) (fun i hi=>?_) (fun n c hn=>?_)
  ·obtain ⟨z,_,rfl⟩:=List.mem_map.1 hx; rfl
  ·have:=List.all_eq_true.1 h7 i hi
   rw [hI.ow]; exact List.contains_iff_mem.1 this
  ·have hm:=lookN_mem hn
   refine ⟨c2 _ hm,fun _=>?_⟩
   obtain ⟨z,hz,e⟩:=List.mem_map.1 hm
   have:=List.all_eq_true.1 h9 z hz
   have e1 : z.1 = n:=by simpa using congrArg Prod.fst e
   rw [e1] at this
   exact List.contains_iff_mem.1 this
 ·exact ⟨hg,by rw [← h1]; exact hI.rd,by rw [← e2]; exact hI.n,fitT_ok hv hI.ts h3,sameF_ok h4 hI.sv,b1,by rw [← e6]; exact hI.lp,rfl,c1⟩
theorem Wk_trans {s s' s'' : Sa} (h : Wk s s') (h' : Wk s' s'') : Wk s s'':=fun Mo m as w hR=>by
 obtain ⟨m1,h1,h2,h3⟩:=h Mo m as w hR
 obtain ⟨m2,h4,h5,h6⟩:=h' Mo m1 as w h1
 exact ⟨m2,h4,h2.trans h5,h6.trans h3⟩
theorem Wk_strip {s : Sa} (i : Name) : Wk s (s.strip i):=fun Mo m as w hR =>
 ⟨m,hR.strip i,(Step.refl m s w).strip i,rfl⟩
def prepOne (i : Name) (y : Sy) : Sy:=match i with
 | 987654321 :: j=>y.soft j
 | i=>(y.soft i).strip i
theorem prepOne_ok {env : List Val} {y : Sy} {s : Sa} (h : Inst env y s) (i : Name) : ∃ s',Wk s s' ∧ Inst env (prepOne i y) s':=by
 unfold prepOne
 split
 ·exact ⟨_,Wk_soft s _,h.soft _⟩
 ·exact ⟨_,Wk_trans (Wk_soft s i) (Wk_strip i),(h.soft i).strip i⟩
theorem prepOne_lp {i : Name} {y : Sy} : (prepOne i y).lp = y.lp:=by
 unfold prepOne
 split
 ·exact Sy.soft_lp
 ·exact Sy.soft_lp
theorem prepOne_g {i : Name} {y : Sy} : (prepOne i y).g = y.g:=by
 unfold prepOne
 split
 ·exact Sy.soft_g
 ·exact Sy.soft_g
def stripAll (ids : List Name) (y : Sy) : Sy:=ids.foldl (fun y i=>prepOne i y) y
theorem stripAll_ok {env : List Val} : ∀ {ids : List Name} {y : Sy} {s : Sa},Inst env y s → ∃ s',Wk s s' ∧ Inst env (stripAll ids y) s'
 | [],y,s,h=>⟨s,Wk.refl,h⟩
 | i :: ids,y,s,h=>by
  obtain ⟨s0,w0,h0⟩:=prepOne_ok h i
  obtain ⟨s',h1,h2⟩:=stripAll_ok (ids:=ids) h0
  exact ⟨s',Wk_trans w0 h1,h2⟩
theorem softAll_ok {env : List Val} : ∀ {ids : List Name} {y : Sy} {s : Sa},Inst env y s → ∃ s',Wk s s' ∧ Inst env (softAll ids y) s'
 | [],y,s,h=>⟨s,Wk.refl,h⟩
 | i :: ids,y,s,h=>by
  obtain ⟨s',h1,h2⟩:=softAll_ok (ids:=ids) (h.soft i)
  exact ⟨s',Wk_trans (Wk_soft s i) h1,h2⟩
theorem stripAll_lp {ids : List Name} {y : Sy} : (stripAll ids y).lp = y.lp:=by
 unfold stripAll
 induction ids generalizing y with
 | nil=>rfl
 | cons i ids ih =>
  simp only [List.foldl_cons]
  rw [ih]
  exact prepOne_lp
theorem toD_one {c : V} {d : D} (h : c.toD = some d) : c.isMpc = false ∧ ((∃ vs ds,c = .agg vs ∧ toDs V.toD1 vs = some ds ∧ d = .agg ds) ∨ c = .d d ∨ (c.cells = [c] ∧ d.cells = [d])):=by
 cases c <;> simp only [V.toD,V.toD1,reduceCtorEq,Option.some.injEq,Option.map_eq_some_iff] at h
 case d x=>subst h; exact ⟨rfl,.inr (.inl rfl)⟩
 case nil=>subst h; exact ⟨rfl,.inr (.inr ⟨rfl,rfl⟩)⟩
 case own i sz xs=>subst h; exact ⟨rfl,.inr (.inr ⟨rfl,rfl⟩)⟩
 case agg vs=>obtain ⟨ds,h1,rfl⟩:=h; exact ⟨rfl,.inl ⟨vs,ds,rfl,h1,rfl⟩⟩
theorem toD_cells {c : V} {d : D} (h : c.toD = some d) : (V.d d).cells.length = c.cells.length ∧ ∀ {w : World} {M : Cells} {m : Mp} {x : Value} (i : Nat) (h1 : i < c.cells.length) (h2 : i < (V.d d).cells.length),RepV w M m c.cells[i] x → RepV w M m (V.d d).cells[i] x:=by
 rcases (toD_one h).2 with ⟨vs,ds,rfl,h1,rfl⟩ | rfl | ⟨e1,e2⟩
 ·obtain ⟨k1,k2⟩:=toDs_spec h1
  refine ⟨by simp [V.cells,k1],fun i h1 h2 hr=>?_⟩
  simp only [V.cells,List.length_map] at h1 h2
  simp only [V.cells,List.getElem_map] at hr ⊢
  exact .d (hr.toD1 (k2 i h1 (by omega)))
 ·exact ⟨rfl,fun i h1 h2 hr=>hr⟩
 ·have e3 : (V.d d).cells = [V.d d]:=by rw [cells_d,e2]; rfl
  refine ⟨by rw [e1,e3]; rfl,fun i h1 h2 hr=>?_⟩
  have hi : i = 0:=by rw [e1] at h1; simpa using h1
  subst hi
  have e4 : c.cells[0] = c:=by simp only [e1,List.getElem_cons_zero]
  have e5 : (V.d d).cells[0] = V.d d:=by simp only [e3,List.getElem_cons_zero]
  rw [e4] at hr; rw [e5]
  exact .d (hr.toD h)
theorem Wk_conv {s s' : Sa} (hrd : s'.rd = s.rd) (hn : s'.n = s.n) (hlp : s'.lp = s.lp) (hts : ∀ t,lkT t s'.ts = lkT t s.ts ∨ ∃ d,(lkT t s.ts).toD = some d ∧ lkT t s'.ts = .d d)
  (hsv : s'.sv = s.sv) (hbx : ∀ nm,lookN nm s'.bx = lookN nm s.bx ∨ ∃ c d,lookN nm s.bx = some c ∧ c.toD = some d ∧ lookN nm s'.bx = some (.d d)) (how : s'.ow = s.ow) (hvc : s'.vc = s.vc) : Wk s s':=by
 intro Mo m as w hR
 have hin : ∀ nm c,lookN nm s'.bx = some c → ∃ c',lookN nm s.bx = some c':=fun nm c h=>by
  rcases hbx nm with e | ⟨c',d,e,_⟩
  ·exact ⟨c,by rw [← e]; exact h⟩
  ·exact ⟨c',e⟩
 have hmut : ∀ b o,Mut s'.bx s'.ow m b o → Mut s.bx s.ow m b o:=by
  rintro b o (⟨nm,c,h1,h2⟩ | ⟨i,h1,h2⟩)
  ·obtain ⟨c',h⟩:=hin nm c h1; exact .inl ⟨nm,c',h,h2⟩
  ·exact .inr ⟨i,by rw [← how]; exact h1,h2⟩
 have hst : Stab w (Tot Mo s.bx s.ow m) w (Tot Mo s'.bx s'.ow m):=fun b o c hc hm=>⟨hc,fun ht=>hm (ht.imp id (hmut b o))⟩
 refine ⟨m,⟨by rw [hsv]; exact hR.len,?_,?_,?_,?_,?_,?_,?_,?_,?_,hR.mo,hR.mks,?_,fun n c hn=>by rw [hvc] at hn; exact ⟨by rw [how]; exact (hR.vec n c hn).1,(hR.vec n c hn).2.mono hst rfl rfl (fun _ _ _ _ _ hv=>hv) (fun b c T hc=>⟨c,hc,rfl⟩)⟩⟩,⟨.of_below (Go.RowKit.Below.refl _ _),fun b o _ h=>hmut b o h,fun b _ h=>by rw [hlp] at h; exact h,hrd,by rw [hsv],fun _ _=>rfl⟩,by simp only [rdOf,hrd]⟩
 ·intro i hi hi'
  cases i with
  | zero =>
   have h0:=hR.fr 0 (by simp) hi'
   refine ⟨by simp only [List.getElem_cons_zero,hn]; exact h0.size,fun t=>?_,h0.def_⟩
   simp only [List.getElem_cons_zero]
   rcases hts t with h | ⟨d,h1,h2⟩
   ·rw [h]; exact hst.mono_rep (h0.ts t)
   ·rw [h2]; exact .d ((hst.mono_rep (h0.ts t)).toD h1)
  | succ i =>
   have h0:=hR.fr (i + 1) (by simpa [hsv] using hi) hi'
   have e : (({ rd:=s'.rd,n:=s'.n,ts:=s'.ts } : Fr) :: s'.sv)[i + 1] = (({ rd:=s.rd,n:=s.n,ts:=s.ts } : Fr) :: s.sv)[i + 1]'(by simpa [hsv] using hi):=by simp [hsv]
   rw [e]; exact h0.stab hst
 ·intro nm c h
  rcases hbx nm with e | ⟨c',d,e1,e2,e3⟩
  ·obtain ⟨cs,T,hb⟩:=hR.box nm c (by rw [← e]; exact h)
   exact ⟨cs,T,hb.heap,hb.size,hb.leafs,fun i hi=>hst.mono_rep (hb.rep i hi)⟩
  ·rw [e3] at h; cases h
   obtain ⟨cs,T,hb⟩:=hR.box nm c' e1
   obtain ⟨k1,k2⟩:=toD_cells e2
   have hm:=(toD_one e2).1
   refine ⟨cs,T,.mk (hb.heap.cells hm) rfl,by rw [hb.size,k1],fun i hi=>hb.leafs i (by rw [← k1]; exact hi),fun i hi=>?_⟩
   exact k2 i (by rw [← k1]; exact hi) hi (hst.mono_rep (hb.rep i (by rw [← k1]; exact hi)))
 ·intro a b c d h1 h2 e
  obtain ⟨b',hb⟩:=hin _ _ h1
  obtain ⟨d',hd⟩:=hin _ _ h2
  exact hR.inj a b' c d' hb hd e
 ·exact fun i hi hn=>hR.oww i (by rw [← how]; exact hi) hn
 ·exact fun i hi j hj h1 h2 e=>hR.owx i (by rw [← how]; exact hi) j (by rw [← how]; exact hj) h1 h2 e
 ·intro i hi hn nm c h
  obtain ⟨c',hc⟩:=hin _ _ h
  exact hR.owb i (by rw [← how]; exact hi) hn nm c' hc
 ·intro l q hl
  rw [hlp] at hl; exact hR.lps l q hl
 ·intro l q hl
  rw [hlp] at hl; exact hR.dep l q hl
 ·intro l q l' q' h1 h2 e
  rw [hlp] at h1 h2; exact hR.lpi l q l' q' h1 h2 e
 ·exact fun i hi hn=>hR.owm i (by rw [← how]; exact hi) hn
abbrev Cv:=List (Nat × Ty) × List (Name × Ty)
def cvOne (w : Ty) (z : SV) : SV:=match asE (some w) z with
 | some (u,x)=>.e u x
 | none=>z
def lkTy (t : Nat) : List (Nat × Ty) → Option Ty
 | []=>none
 | (a,w) :: l=>if Nat.beq a t then some w else lkTy t l
def convK {κ : Type} (f : κ → Option Ty) (l : List (κ × SV)) : List (κ × SV):=l.map fun x=>(x.1,match f x.1 with | some w=>cvOne w x.2 | none=>x.2)
def convY (cv : Cv) (y : Sy) : Sy:={ y with ts:=convK (fun t=>lkTy t cv.1) y.ts,bx:=convK (fun n=>lookN n cv.2) y.bx }
theorem cvOne_ok {env : List Val} {w : Ty} {z : SV} {v : V} (h : InstV env z v) : ∃ v',InstV env (cvOne w z) v' ∧ (v' = v ∨ ∃ d,v.toD = some d ∧ v' = .d d):=by
 unfold cvOne
 split
 ·rename_i u x he
  obtain ⟨a,h1,h2⟩:=asE_ok he h
  exact ⟨.d (encD u a),by simp only [InstV]; exact ⟨a,h1,rfl⟩,.inr ⟨_,h2,rfl⟩⟩
 ·exact ⟨v,h,.inl rfl⟩
theorem convT_ok {env : List Val} {f : Nat → Option Ty} : ∀ {l : List (Nat × SV)} {us : List (Nat × V)},InstK env l us → ∃ us',InstK env (convK f l) us' ∧ ∀ t,lkT t us' = lkT t us ∨ ∃ d,(lkT t us).toD = some d ∧ lkT t us' = .d d
 | [],us,h=>by simp only [InstK] at h; subst h; exact ⟨[],rfl,fun t=>.inl rfl⟩
 | (k,z) :: l,us,h=>by
  simp only [InstK] at h
  obtain ⟨v,us',rfl,h2,h3⟩:=h
  obtain ⟨us2,e1,e2⟩:=convT_ok (f:=f) h3
  have hv : ∃ v',InstV env (match f k with | some w=>cvOne w z | none=>z) v' ∧ (v' = v ∨ ∃ d,v.toD = some d ∧ v' = .d d):=by
   split
   ·exact cvOne_ok h2
   ·exact ⟨v,h2,.inl rfl⟩
  obtain ⟨v',g1,g2⟩:=hv
  refine ⟨(k,v') :: us2,⟨_,_,rfl,g1,e1⟩,fun t=>?_⟩
  simp only [lkT]
  split
  ·rcases g2 with rfl | g2
   ·exact .inl rfl
   ·exact .inr g2
  ·exact e2 t
theorem convB_ok {env : List Val} {f : Name → Option Ty} : ∀ {l : List (Name × SV)} {us : List (Name × V)},InstK env l us → ∃ us',InstK env (convK f l) us' ∧ ∀ nm,lookN nm us' = lookN nm us ∨ ∃ c d,lookN nm us = some c ∧ c.toD = some d ∧ lookN nm us' = some (.d d)
 | [],us,h=>by simp only [InstK] at h; subst h; exact ⟨[],rfl,fun t=>.inl rfl⟩
 | (k,z) :: l,us,h=>by
  simp only [InstK] at h
  obtain ⟨v,us',rfl,h2,h3⟩:=h
  obtain ⟨us2,e1,e2⟩:=convB_ok (f:=f) h3
  have hv : ∃ v',InstV env (match f k with | some w=>cvOne w z | none=>z) v' ∧ (v' = v ∨ ∃ d,v.toD = some d ∧ v' = .d d):=by
   split
   ·exact cvOne_ok h2
   ·exact ⟨v,h2,.inl rfl⟩
  obtain ⟨v',g1,g2⟩:=hv
  refine ⟨(k,v') :: us2,⟨_,_,rfl,g1,e1⟩,fun t=>?_⟩
  simp only [lookN]
  split
  ·rcases g2 with rfl | ⟨d,g2,rfl⟩
   ·exact .inl rfl
   ·exact .inr ⟨v,d,rfl,g2,rfl⟩
  ·exact e2 t
theorem convY_ok {env : List Val} {cv : Cv} {y : Sy} {s : Sa} (h : Inst env y s) : ∃ s',Wk s s' ∧ Inst env (convY cv y) s':=by
 obtain ⟨ts',e1,e2⟩:=convT_ok (f:=fun t=>lkTy t cv.1) h.ts
 obtain ⟨bx',g1,g2⟩:=convB_ok (f:=fun n=>lookN n cv.2) h.bx
 exact ⟨{ s with ts:=ts',bx:=bx' },Wk_conv rfl rfl rfl e2 rfl g2 rfl rfl,h.g,h.rd,h.n,e1,h.sv,g1,h.lp,h.ow,h.vc⟩
def prepY (ids : List Name) (cv : Cv) (y : Sy) : Sy:=convY cv (stripAll ids y)
theorem prepY_ok {env : List Val} {ids : List Name} {cv : Cv} {y : Sy} {s : Sa} (h : Inst env y s) : ∃ s',Wk s s' ∧ Inst env (prepY ids cv y) s':=by
 obtain ⟨s1,w1,i1⟩:=stripAll_ok (ids:=ids) h
 obtain ⟨s2,w2,i2⟩:=convY_ok (cv:=cv) i1
 exact ⟨s2,Wk_trans w1 w2,i2⟩
theorem prepY_lp {ids : List Name} {cv : Cv} {y : Sy} : (prepY ids cv y).lp = y.lp:=stripAll_lp
theorem TC_post {P : Program} {p : Name} {c : Code} {s : Sa} {Q : Ex → Sa → Prop} (h : TC P p c s (fun e s'=>∃ s'',Wk s' s'' ∧ Q e s'')) : TC P p c s Q:=fun Mo m a sv w n hR =>
 wpIn_mono (h Mo m a sv w n hR) (fun e a' w' ⟨x,m',s',h1,⟨s'',hw,hq⟩,h3,h4,h5,h6⟩=>by
  obtain ⟨m2,g1,g2,g3⟩:=hw Mo m' _ w' h3
  exact ⟨x,m2,s'',h1,hq,g1,h4.trans g2,g3.trans h5,h6⟩)
structure Leaf where
 e : Ex
 v : SV
 s : Sy
def sameEx : Ex → Ex → Bool
 | .norm,.norm=>true
 | .ret,.ret=>true
 | .exit i,.exit j=>Nat.beq i j
 | _,_=>false
theorem sameEx_eq {a b : Ex} (h : sameEx a b = true) : a = b:=by
 unfold sameEx at h
 split at h <;> first | rfl | (rw [Nat.eq_of_beq_eq_true h]) | cases h
def sigma (n0 : Nat) (ids : List Name) (cv : Cv) (yJ : Sy) (rep : Leaf) : List Leaf → List (List E) → Nat → Option (List T × List Leaf)
 | [],_,_=>some ([],[])
 | lf :: L,as,k=>if sameEx lf.e rep.e && lpB lf.s.lp rep.s.lp then (match as with
   | a :: as=>if fitsY n0 a (prepY ids cv lf.s) yJ then (sigma n0 ids cv yJ rep L as k).map fun r=>(.jump 0 a :: r.1,r.2) else none
   | []=>none)
  else (sigma n0 ids cv yJ rep L as (k + 1)).map fun r=>(.hole k :: r.1,lf :: r.2)
def glue (n0 : Nat) (ids : List Name) (cv : Cv) (yJ : Sy) (ps : List Ty) (rep : Leaf) (as : List (List E)) (t : T) (L : List Leaf) : Option (T × List Leaf) :=
 match sigma n0 ids cv yJ rep L as 1 with
 | some (ts,os)=>some (.letj ps (.hole 0) ((t.lift 0).sub fun i=>ts.getD i .fail),⟨rep.e,.dead,yJ⟩ :: os)
 | none=>none
def LQ (L : List Leaf) (Q : Leaf → List Val → Prop) : Nat → List Val → Prop:=fun i env=>∃ lf,L[i]? = some lf ∧ Q lf env
abbrev noJ : Jt:=fun _ _=>False
theorem sigma_ok {n0 : Nat} {ids : List Name} {cv : Cv} {yJ : Sy} {rep : Leaf} : ∀ {L : List Leaf} {as : List (List E)} {k : Nat} {ts : List T} {os : List Leaf},sigma n0 ids cv yJ rep L as k = some (ts,os) → ∀ {i : Nat} {lf : Leaf},L[i]? = some lf →
  (∃ a,ts[i]? = some (.jump 0 a) ∧ lf.e = rep.e ∧ fitsY n0 a (prepY ids cv lf.s) yJ = true) ∨ (∃ j,ts[i]? = some (.hole (k + j)) ∧ os[j]? = some lf)
 | [],as,k,ts,os,h,i,lf,hl=>by simp at hl
 | x :: L,as,k,ts,os,h,i,lf,hl=>by
  simp only [sigma] at h
  split at h
  ·rename_i hs
   simp only [Bool.and_eq_true] at hs
   split at h
   ·rename_i a as'
    split at h
    ·rename_i hf
     obtain ⟨⟨ts',os'⟩,h1,h2⟩:=Option.map_eq_some_iff.1 h
     cases h2
     cases i with
     | zero=>simp at hl; subst hl; exact .inl ⟨a,by simp,sameEx_eq hs.1,hf⟩
     | succ i=>simpa using sigma_ok h1 (by simpa using hl)
    ·cases h
   ·cases h
  ·obtain ⟨⟨ts',os'⟩,h1,h2⟩:=Option.map_eq_some_iff.1 h
   cases h2
   cases i with
   | zero=>simp at hl; subst hl; exact .inr ⟨0,by simp,by simp⟩
   | succ i =>
    rcases sigma_ok h1 (i:=i) (lf:=lf) (by simpa using hl) with ⟨a,g1,g2,g3⟩ | ⟨j,g1,g2⟩
    ·exact .inl ⟨a,by simpa using g1,g2,g3⟩
    ·exact .inr ⟨j + 1,by simpa [Nat.add_assoc,Nat.add_comm 1 j] using g1,by simpa using g2⟩
theorem sigma_mem {n0 : Nat} {ids : List Name} {cv : Cv} {yJ : Sy} {rep : Leaf} : ∀ {L : List Leaf} {as : List (List E)} {k : Nat} {ts : List T} {os : List Leaf},sigma n0 ids cv yJ rep L as k = some (ts,os) → ∀ lf ∈ os,lf ∈ L
 | [],as,k,ts,os,h=>by cases h; simp
 | x :: L,as,k,ts,os,h=>by
  simp only [sigma] at h
  split at h
  ·split at h
   ·split at h
    ·obtain ⟨⟨ts',os'⟩,h1,h2⟩:=Option.map_eq_some_iff.1 h
     cases h2
     exact fun lf hl=>List.mem_cons_of_mem _ (sigma_mem h1 lf hl)
    ·cases h
   ·cases h
  ·obtain ⟨⟨ts',os'⟩,h1,h2⟩:=Option.map_eq_some_iff.1 h
   cases h2
   intro lf hl
   rcases List.mem_cons.1 hl with rfl | hl
   ·exact List.mem_cons_self
   ·exact List.mem_cons_of_mem _ (sigma_mem h1 lf hl)
theorem glue_ok {CS : Calls'} (hCS : CallsWf CS) {n0 : Nat} {ids : List Name} {cv : Cv} {yJ : Sy} {ps : List Ty} {rep : Leaf} {as : List (List E)} {t t' : T} {L L' : List Leaf} {env : List Val} {Q : Leaf → List Val → Prop} (h : glue n0 ids cv yJ ps rep as t L = some (t',L')) (hn : env.length = n0) (hw : EnvWf env)
  (hgJ : yJ.g = env.map (·.1) ++ ps) (hlp : ∀ lf ∈ L,lpS lf.s.lp = lpS yJ.lp) {R : Ex → Sa → Prop} (hs : t'.sat CS noJ (LQ L' fun lf e=>∀ s',Inst e lf.s s' → R lf.e s') env) :
  t.sat CS noJ (LQ L fun lf e=>∀ s',Inst e lf.s s' → ∃ s'',Wk s' s'' ∧ R lf.e s'') env:=by
 unfold glue at h
 split at h
 ·rename_i ts os hsg
  cases h
  simp only [T.sat] at hs
  rw [T.sat_sub,T.sat_lift,cut_zero] at hs
  have hs2:=T.sat_ext hCS hw hs
  refine T.sat_mono (fun _ _ h=>h.2) ?_ hs2
  rintro i e ⟨⟨l,rfl⟩,he,hq⟩
  cases hts : ts[i]? with
  | none=>simp [List.getD_eq_getElem?_getD,hts,T.sat] at hq
  | some tt =>
   simp only [List.getD_eq_getElem?_getD,hts,Option.getD_some] at hq
   have hlen : ∀ {L : List Leaf} {as : List (List E)} {k : Nat} {ts : List T} {os : List Leaf},sigma n0 ids cv yJ rep L as k = some (ts,os) → ts.length = L.length:=by
    intro L
    induction L with
    | nil=>intro as k ts os h; cases h; rfl
    | cons x L ih =>
     intro as k ts os h
     simp only [sigma] at h
     split at h
     ·split at h
      ·split at h
       ·obtain ⟨⟨ts',os'⟩,h1,h2⟩:=Option.map_eq_some_iff.1 h
        cases h2; simp [ih h1]
       ·cases h
      ·cases h
     ·obtain ⟨⟨ts',os'⟩,h1,h2⟩:=Option.map_eq_some_iff.1 h
      cases h2; simp [ih h1]
   have hi : i < L.length:=by rw [← hlen hsg]; exact (List.getElem?_eq_some_iff.1 hts).1
   refine ⟨L[i],List.getElem?_eq_getElem hi,?_⟩
   rcases sigma_ok hsg (List.getElem?_eq_getElem hi) with ⟨a,g1,g2,g3⟩ | ⟨j,g1,g2⟩
   ·rw [hts] at g1
    cases g1
    simp only [T.sat] at hq
    obtain ⟨vs,hv,hvs,lf,hlf,hR⟩:=hq
    simp only [List.getElem?_cons_zero,Option.some.injEq] at hlf
    subst hlf
    intro s' hI
    obtain ⟨s1,w1,i1⟩:=prepY_ok (ids:=ids) (cv:=cv) hI
    obtain ⟨s2,w2,i2⟩:=fitsY_ok (by rw [hn]; exact g3) (by rw [prepY_lp]; exact hlp _ (List.getElem_mem hi)) i1 hv (by rw [List.map_append,hvs,hgJ])
    refine ⟨s2,Wk_trans w1 w2,?_⟩
    rw [g2]
    exact hR s2 i2
   ·rw [hts] at g1
    cases g1
    simp only [T.sat] at hq
    obtain ⟨lf,hlf,hR⟩:=hq
    rw [Nat.add_comm 1 j,List.getElem?_cons_succ,g2] at hlf
    cases hlf
    exact fun s' hI=>⟨s',Wk.refl,hR s' hI⟩
 ·cases h
end Go.Tx
namespace Go.Tx
set_option linter.unusedVariables false
set_option linter.unusedSimpArgs false
open Go Go.Ab
inductive Spec where
 | clo (ts te : TypeId)
 | ins (ts te ti : TypeId)
def SpecOK (P : Program) (f : FuncId) : Spec → Prop
 | .clo ts te=>CloOK P f ts te
 | .ins ts te ti=>InsOK P f ts te ti
def SpOK (P : Program) (sp : FuncId → Option Spec) : Prop:=∀ f x,sp f = some x → SpecOK P f x
theorem SpOK.none {P : Program} : SpOK P (fun _=>Option.none):=fun _ _ h=>by cases h
def Sy.vturn (y : Sy) (n : Name) (w : Ty) : Sy:={ ((y.strip n).more [.sl w]) with ow:=n :: (y.strip n).ow,vc:=(n,(w,.var y.g.length)) :: (y.strip n).vc }
def spCall (P : Program) (nm : Name) (sp : Spec) (args : List SV) (y : Sy) : Option (Bs × Sy × SV) :=
 match sp with
 | .clo ts te=>match args with
  | [z]=>match asS (tyD P ts) z with
   | some (w,ye)=>if w.size = tsz P te ∧ tbytes P te ≠ 0 then some ([(.r2 (.app (tbytes P te)) (.zero (.sl w)) ye,.sl w)],y.vturn nm w,.vsl nm) else none
   | none=>none
  | _=>none
 | .ins ts te ti=>match args with
  | [.vsl n,iz,z]=>match lookN n y.vc,asI iz,asS (tyD P ts) z with
   | some (w',l),some (q,i),some (w,ye)=>if q = .i64 ∧ w = w' ∧ w.size = tsz P te ∧ tbytes P te ≠ 0 then some ([(.r3 (.ins (tbytes P te)) l i ye,.sl w)],y.vturn n w,.vsl n) else none
   | _,_,_=>none
  | _=>none
section
variable {P : Program} {S : Sems} {CS : Calls'} {env : List Val} {y : Sy} {s : Sa} {p : Name}
theorem toD_sliceOf {v : V} {xs : List D} (h : sliceOf v = some xs) : v.toD = some (.sl xs):=by
 unfold sliceOf at h
 split at h <;> first | (cases h; rfl) | cases h
theorem vturn_lp {n : Name} {w : Ty} : (y.vturn n w).lp = y.lp:=rfl
theorem Inst.vturn (hI : Inst env y s) (n : Name) (w : Ty) (a : List w.den) (sz : Nat) (hw : w.size = sz) : Inst (env ++ [⟨.sl w,a⟩]) (y.vturn n w) (s.vturn n sz (a.map (encD w))):=by
 have h4:=(hI.strip n).snoc (⟨.sl w,a⟩ : Val)
 exact ⟨h4.g,h4.rd,h4.n,h4.ts,h4.sv,h4.bx,h4.lp,by have:=h4.ow; simp only [Sy.more] at this; simp only [Sy.vturn,Sa.vturn,Sy.more,this],⟨a,_,by rw [← hw]; rfl,by rw [← hI.len]; exact var_last rfl,h4.vc⟩⟩
theorem clo_make {g : FuncId} {ts te : TypeId} {z : SV} {v : V} {w : Ty} {ye : E} {Q : List Val → Prop} (hs : CloOK P g ts te) (has : asS (tyD P ts) z = some (w,ye)) (c1 : w.size = tsz P te) (c2 : tbytes P te ≠ 0) (hl : env.length = y.g.length) (hv : InstV env z v)
  (hb : okBs CS [(.r2 (.app (tbytes P te)) (.zero (.sl w)) ye,.sl w)] env Q) : ∃ ys : List w.den,toDs V.toD [v] = some [.sl (ys.map (encD w))] ∧ MakeOK P g [.sl (ys.map (encD w))] (tsz P te) (ys.map (encD w)) ∧ Q (env ++ [⟨.sl w,ys⟩]):=by
 obtain ⟨ys,f1,f2⟩:=asS_ok has hv
 obtain ⟨r,r1,r2,r3⟩:=ok_last rfl hb
 obtain ⟨a',b',rr,cc,x1,x2,x3,x4,x5⟩:=r1
 have e1 : (E.zero (.sl w)).val env = some ⟨.sl w,[]⟩:=rfl
 rw [e1] at x1; cases x1
 rw [f1] at x2; cases x2
 simp only [rel2,dif_pos,if_pos c2,Option.some.injEq] at x3
 subst x3
 simp only at x4
 split at x4
 ·rename_i hle
  cases x4; cases x5
  simp only [List.length_nil,Nat.zero_add] at hle
  have hall : ∀ d ∈ ys.map (encD w),d.cells.length = tsz P te:=fun d hd=>by
   obtain ⟨q,_,rfl⟩:=List.mem_map.1 hd
   rw [encD_cells,enc_len]; exact c1
  have hlen : ys.length ≤ 9223372036854775807:=by
   have:=Nat.le_mul_of_pos_right ys.length (Nat.pos_of_ne_zero c2)
   omega
  exact ⟨ys,by simp only [toDs,toD_sliceOf f2],CloOK.make (xs:=ys.map (encD w)) hs hall (by rw [List.length_map]; exact hle) (by rw [List.length_map]; exact hlen),r2⟩
 ·cases x4
theorem spCall_ok {g : FuncId} {sp : Spec} {args : List SV} {nm : Name} {bs : Bs} {y1 : Sy} {z1 : SV} {vs : List V} {k : V → Sa → Prop} (hs : SpecOK P g sp) (h : spCall P nm sp args y = some (bs,y1,z1)) (hI : Inst env y s) (hargs : InstL env args vs)
  (hb : okBs CS bs env fun e=>∀ s' v,Inst e y1 s' → InstV e z1 v → k v s') : TCall P p g vs s k:=by
 cases sp with
 | clo ts te =>
  simp only [spCall] at h
  split at h
  ·rename_i z
   split at h
   ·rename_i w ye has
    split at h
    ·rename_i hc
     obtain ⟨c1,c2⟩:=hc
     cases h
     simp only [InstL] at hargs
     obtain ⟨v,vs',rfl,h1,rfl⟩:=hargs
     obtain ⟨ys,f1,f2⟩:=asS_ok has h1
     obtain ⟨r,r1,r2,r3⟩:=ok_last hI.len hb
     obtain ⟨a',b',rr,cc,x1,x2,x3,x4,x5⟩:=r1
     have e1 : (E.zero (.sl w)).val env = some ⟨.sl w,[]⟩:=rfl
     rw [e1] at x1; cases x1
     rw [f1] at x2; cases x2
     simp only [rel2,dif_pos,if_pos c2,Option.some.injEq] at x3
     subst x3
     simp only at x4
     split at x4
     ·rename_i hle
      cases x4; cases x5
      simp only [List.length_nil,Nat.zero_add] at hle
      have hall : ∀ d ∈ ys.map (encD w),d.cells.length = tsz P te:=fun d hd=>by
       obtain ⟨q,_,rfl⟩:=List.mem_map.1 hd
       rw [encD_cells,enc_len]; exact c1
      have hlen : ys.length ≤ 9223372036854775807:=by
       have:=Nat.le_mul_of_pos_right ys.length (Nat.pos_of_ne_zero c2)
       omega
      have hm:=CloOK.make (xs:=ys.map (encD w)) hs hall (by rw [List.length_map]; exact hle) (by rw [List.length_map]; exact hlen)
      refine hm p [v] s nm k (by simp only [toDs,toD_sliceOf f2]) ?_
      have h5:=hI.vturn nm w ([] ++ ys) (tsz P te) c1
      exact r2 _ _ h5 rfl
     ·cases x4
    ·cases h
   ·cases h
  ·cases h
 | ins ts te ti =>
  simp only [spCall] at h
  split at h
  ·rename_i n iz z
   split at h
   ·rename_i w' l q i w ye hl hi has
    split at h
    ·rename_i hc
     obtain ⟨c0,c1,c2,c3⟩:=hc
     subst c0; subst c1
     cases h
     simp only [InstL] at hargs
     obtain ⟨v1,vs',rfl,h1,v2,vs'',rfl,h2,v3,vs3,rfl,h3,rfl⟩:=hargs
     simp only [InstV] at h1
     subst h1
     obtain ⟨al,e1,e2⟩:=(hI.vc.look).1 hl
     obtain ⟨ii,i1,rfl⟩:=asI_ok hi h2
     obtain ⟨ys,f1,f2⟩:=asS_ok has h3
     obtain ⟨r,r1,r2,r3⟩:=ok_last hI.len hb
     obtain ⟨a',b',d',rr,cc,x1,x2,x3,x4,x5,x6⟩:=r1
     rw [e1] at x1; cases x1
     rw [i1] at x2; cases x2
     rw [f1] at x3; cases x3
     simp only [rel3,dif_pos,if_pos c3,Option.some.injEq] at x4
     subst x4
     simp only at x5
     split at x5
     ·rename_i hle
      cases x5; cases x6
      obtain ⟨g1,g2,g3⟩:=hle
      have hall : ∀ d ∈ ys.map (encD w),d.cells.length = tsz P te:=fun d hd=>by
       obtain ⟨q,_,rfl⟩:=List.mem_map.1 hd
       rw [encD_cells,enc_len]; exact c2
      have hlen : al.length + ys.length ≤ 9223372036854775807:=by
       have:=Nat.le_mul_of_pos_right (al.length + ys.length) (Nat.pos_of_ne_zero c3)
       omega
      refine TCall_ins hs (by rw [e2,c2]) g1 (by rw [List.length_map]; exact g2) (toD_sliceOf f2) hall (by rw [List.length_map,List.length_map]; exact g3) (by rw [List.length_map,List.length_map]; exact hlen) ?_
      have h5:=hI.vturn n w (al.take ii.toNat ++ ys ++ al.drop ii.toNat) (tsz P te) c2
      rw [List.map_append,List.map_append,List.map_take,List.map_drop] at h5
      exact r2 _ _ h5 rfl
     ·cases x5
    ·cases h
   ·cases h
  ·cases h
end
end Go.Tx
namespace Go.Tx
set_option linter.unusedVariables false
set_option linter.unusedSimpArgs false
open Go Go.Ab
mutual
def SV.nov (n : Name) : SV → Bool
 | .own j _ _ _=>!decide (j = n)
 | .vsl m=>!decide (m = n)
 | .vpt m _ _ _=>!decide (m = n)
 | .fn _ c=>SV.novL n c
 | .agg c=>SV.novL n c
 | .mix _ _ _ c=>SV.novL n c
 | .tup c=>SV.novL n c
 | .gd _ x=>SV.nov n x
 | _=>true
def SV.novL (n : Name) : List SV → Bool
 | []=>true
 | x :: l=>SV.nov n x && SV.novL n l
end
def novK {κ : Type} (n : Name) (l : List (κ × SV)) : Bool:=l.all fun x=>x.2.nov n
def Sy.free (y : Sy) (n : Name) : Bool:=novK n y.ts && y.sv.all (fun f=>novK n f.ts) && novK n y.bx && !y.ow.contains n && y.vc.all fun x=>!decide (x.1 = n)
section
variable {env : List Val}
mutual
theorem InstV.nov {n : Name} : ∀ {z : SV} {v : V},z.nov n = true → InstV env z v → v.strip n = v
 | .e t x,v,h,hv=>by simp only [InstV] at hv; obtain ⟨a,_,rfl⟩:=hv; rfl
 | .nil,v,h,hv=>by simp only [InstV] at hv; subst hv; rfl
 | .own j sz t x,v,h,hv=>by
  simp only [InstV] at hv
  obtain ⟨a,_,_,rfl⟩:=hv
  have : j ≠ n:=by simpa [SV.nov] using h
  simp [V.strip,this]
 | .ptr m off,v,h,hv=>by simp only [InstV] at hv; subst hv; rfl
 | .aptr m off k t i inn,v,h,hv=>by simp only [InstV] at hv; obtain ⟨_,_,_,_,_,rfl⟩:=hv; rfl
 | .ref t x off,v,h,hv=>by simp only [InstV] at hv; obtain ⟨_,_,_,rfl,_⟩:=hv; rfl
 | .fn f cap,v,h,hv=>by
  simp only [InstV] at hv
  obtain ⟨c,rfl,hc⟩:=hv
  simp only [V.strip,InstL.nov (z:=cap) (by simpa [SV.nov] using h) hc]
 | .yld l,v,h,hv=>by simp only [InstV] at hv; subst hv; rfl
 | .mref m,v,h,hv=>by simp only [InstV] at hv; subst hv; rfl
 | .mpc k t x,v,h,hv=>by simp only [InstV] at hv; obtain ⟨_,_,_,rfl,_⟩:=hv; rfl
 | .agg cs,v,h,hv=>by
  simp only [InstV] at hv
  obtain ⟨c,rfl,hc⟩:=hv
  simp only [V.strip,InstL.nov (z:=cs) (by simpa [SV.nov] using h) hc]
 | .mix t x os zs,v,h,hv=>by
  simp only [InstV] at hv
  obtain ⟨a,c,h1,rfl,h3,h4,h5⟩:=hv
  simp only [V.strip,V.agg.injEq]
  have hp:=InstP.nov (z:=zs) (by simpa [SV.nov] using h) h4
  rw [V.stripL_map]
  refine List.ext_getElem? fun j=>?_
  rw [List.getElem?_map]
  by_cases hj : j < t.size
  ·by_cases ho : j ∈ os
   ·cases hc : c[j]? with
    | none=>rfl
    | some v=>rw [Option.map_some,hp j ho v hc]
   ·rw [h5 j hj ho]
    cases (enc t a)[j]? <;> rfl
  ·rw [List.getElem?_eq_none (by omega)]; rfl
 | .tup cs,v,h,hv=>by
  simp only [InstV] at hv
  obtain ⟨c,rfl,hc⟩:=hv
  simp only [V.strip,InstL.nov (z:=cs) (by simpa [SV.nov] using h) hc]
 | .kd cs,v,h,hv=>by simp only [InstV] at hv; subst hv; rfl
 | .gd gs x,v,h,hv=>by
  simp only [InstV] at hv
  obtain ⟨b,_,_,h2,h3⟩:=hv
  cases b with
  | true=>exact InstV.nov (z:=x) (by simpa [SV.nov] using h) (h2 rfl)
  | false=>rw [h3 rfl]; rfl
 | .vsl m,v,h,hv=>by
  simp only [InstV] at hv; subst hv
  have : m ≠ n:=by simpa [SV.nov] using h
  simp [V.strip,this]
 | .vpt m t i inn,v,h,hv=>by
  simp only [InstV] at hv
  obtain ⟨_,_,_,_,rfl⟩:=hv
  have : m ≠ n:=by simpa [SV.nov] using h
  simp [V.strip,this]
 | .dead,v,h,hv=>by simp only [InstV] at hv; subst hv; rfl
theorem InstL.nov {n : Name} : ∀ {z : List SV} {v : List V},SV.novL n z = true → InstL env z v → V.stripL n v = v
 | [],v,h,hv=>by simp only [InstL] at hv; subst hv; rfl
 | x :: l,v,h,hv=>by
  simp only [InstL] at hv
  obtain ⟨u,us,rfl,h1,h2⟩:=hv
  simp only [SV.novL,Bool.and_eq_true] at h
  simp only [V.stripL,InstV.nov h.1 h1,InstL.nov h.2 h2]
theorem InstP.nov {n : Name} : ∀ {z : List SV} {os : List Nat} {c : List V},SV.novL n z = true → InstP env os z c → ∀ j ∈ os,∀ v,c[j]? = some v → v.strip n = v
 | [],os,c,h,hv=>by simp only [InstP] at hv; subst hv; intro j hj; cases hj
 | x :: l,os,c,h,hv=>by
  simp only [InstP] at hv
  obtain ⟨i,os',rfl,⟨u,h1,h2⟩,h3⟩:=hv
  simp only [SV.novL,Bool.and_eq_true] at h
  intro j hj v hc
  rcases List.mem_cons.1 hj with rfl | hj
  ·rw [h1] at hc; cases hc; exact InstV.nov h.1 h2
  ·exact InstP.nov h.2 h3 j hj v hc
end
theorem novT {n : Name} : ∀ {l : List (Nat × SV)} {us : List (Nat × V)},novK n l = true → InstK env l us → mapT (V.strip n) us = us
 | [],us,h,hv=>by simp only [InstK] at hv; subst hv; rfl
 | (t,z) :: l,us,h,hv=>by
  simp only [InstK] at hv
  obtain ⟨v,vs,rfl,h1,h2⟩:=hv
  simp only [novK,List.all_cons,Bool.and_eq_true] at h
  have:=novT (l:=l) h.2 h2
  simp only [mapT,List.map_cons,InstV.nov h.1 h1]
  exact congrArg _ this
theorem novB {n : Name} : ∀ {l : List (Name × SV)} {us : List (Name × V)},novK n l = true → InstK env l us → us.map (fun x=>(x.1,x.2.strip n)) = us
 | [],us,h,hv=>by simp only [InstK] at hv; subst hv; rfl
 | (t,z) :: l,us,h,hv=>by
  simp only [InstK] at hv
  obtain ⟨v,vs,rfl,h1,h2⟩:=hv
  simp only [novK,List.all_cons,Bool.and_eq_true] at h
  have:=novB (l:=l) h.2 h2
  simp only [List.map_cons,InstV.nov h.1 h1,this]
theorem novF {n : Name} : ∀ {l : List SFr} {us : List Fr},l.all (fun f=>novK n f.ts) = true → InstF env l us → us.map (fun f=>{ f with ts:=mapT (V.strip n) f.ts }) = us
 | [],us,h,hv=>by simp only [InstF] at hv; subst hv; rfl
 | f :: l,us,h,hv=>by
  simp only [InstF] at hv
  obtain ⟨g,l',rfl,h1,h2,h3,h4⟩:=hv
  simp only [List.all_cons,Bool.and_eq_true] at h
  simp only [List.map_cons,novT h.1 h3,novF h.2 h4]
theorem Inst.free {y : Sy} {s : Sa} {n : Name} (h : y.free n = true) (hI : Inst env y s) : s.strip n = s:=by
 simp only [Sy.free,Bool.and_eq_true,Bool.not_eq_true'] at h
 obtain ⟨⟨⟨⟨h1,h2⟩,h3⟩,h4⟩,h5⟩:=h
 have e1:=novT h1 hI.ts
 have e2:=novF h2 hI.sv
 have e3:=novB h3 hI.bx
 have e4 : s.ow.filter (fun j=>j != n) = s.ow:=by
  refine List.filter_eq_self.2 fun j hj=>?_
  rw [hI.ow] at hj
  have : n ∉ y.ow:=by simpa using h4
  simpa using fun e : j = n=>this (e ▸ hj)
 have e5 : s.vc.filter (fun x=>x.1 != n) = s.vc:=by
  refine List.filter_eq_self.2 fun x hx=>?_
  have : ∀ {l : List (Name × Ty × E)} {us : List (Name × Nat × List D)},l.all (fun x=>!decide (x.1 = n)) = true → InstC env l us → ∀ x ∈ us,(x.1 != n) = true:=by
   intro l
   induction l with
   | nil=>intro us _ hv x hx; simp only [InstC] at hv; subst hv; cases hx
   | cons q l ih =>
    obtain ⟨a,b,c⟩:=q
    intro us hl hv x hx
    simp only [InstC] at hv
    obtain ⟨w,r,rfl,_,h7⟩:=hv
    simp only [List.all_cons,Bool.and_eq_true] at hl
    rcases List.mem_cons.1 hx with rfl | hx
    ·simpa using hl.1
    ·exact ih hl.2 h7 x hx
  exact this h5 hI.vc x hx
 unfold Sa.strip
 rw [e1,e2,e3,e4,e5]
end
end Go.Tx
namespace Go.Ab
set_option linter.unusedVariables false
open Go Go.RowKit
variable {P : Program} {w : World} {n : Nat} {Mo : Cells} {m : Mp} {s : Sa} {as : List Act} {p : Name}
theorem PureOK.of_bodyT {f : FuncId} {fn : Func} {c : Code} {ds rs : List D} (q : Name) (hf : P.funcs[f]? = some fn) (hb : fn.body = some c) (hle : ds.length ≤ fn.ntmps)
  (h : (∀ i (hi : i < ds.length),ds[i].wf) → TC P q c (s0 fn.ntmps ds) (Out P fn.results.toList rs)) : PureOK P f ds rs:=by
 intro M w n vs hlt hs hr
 refine callsIn_of_wp_marks hf hb trivial ?_ rfl
 have h0:=rel_start (m:=⟨fun _=>0,fun _=>(0,0,0),fun _=>0,fun _=>(none,0,0)⟩) fn.ntmps hlt hs hr hle
 have h1:=h (fun i hi=>(hr i hi).wf) M _ _ _ w n h0
 refine wpIn_mono h1 ?_
 rintro e a' w' ⟨ex,m',s',he,⟨hex,hres⟩,hR',hst,_,hmk⟩
 have hB : ∀ d ∈ a'.defers,∃ r,d = { target:=.collected r,args:=#[] } ∧ w.heap.size ≤ r:=fun d hd=>by
  rcases hmk d hd with h | h
  ·simp at h
  ·exact h
 have hfin : LeavesInM (Wd none) n P fn a'.tmps (fun e w'=>∃ c,e = .returned c ∧ Below w.heap.size w w' ∧ ∀ m,RepV w' M m (mkRes (rs.map .d)) c) a'.defers .returning w':=by
  refine leaves w.heap.size hres a'.defers a' w' rfl hR' hB (fun vs c w2 hk hR2 hv hb=>?_)
  have hst2:=hst.after hb
  refine ⟨c,rfl,⟨hst2.keeps.os,hst2.keeps.tape,hst2.keeps.output,hst2.keeps.size,fun b hb'=>hst2.keeps.blk b hb' (fun o ho=>?_) (fun hl=>?_)⟩,mkRes_toD (hv.mono (fun b o x hx hm=>⟨hx,fun ht=>hm (.inl ht)⟩) (fun _ _=>rfl) (fun _ _ _ _ h=>h) (fun _ _=>rfl)) hk⟩
  ·rcases ho with ⟨nm,c,hn,_⟩ | ⟨i,hi,_⟩
   ·simp [s0,lookN] at hn
   ·simp [s0] at hi
  ·obtain ⟨l,q,hl,_⟩:=hl
   simp [s0,lookN] at hl
 cases e with
 | normal=>cases he; exact hfin
 | ret=>cases he; exact hfin
 | exit i=>cases he; exact hex.elim
 | goto l=>cases he
 | panic c=>cases he
 | outgrown=>cases he
theorem TCall_enterT {f : FuncId} {fn : Func} {c : Code} {args : List V} {k : V → Sa → Prop} (q : Name) (hf : P.funcs[f]? = some fn) (hb : fn.body = some c) (hle : args.length ≤ fn.ntmps)
  (h : TC P q c (s.push fn.ntmps (argTs 0 args)) (Left k P fn.results.toList s)) : TCall P p f args s k:=by
 intro Mo m as w n vs r hR hargs
 refine callsIn_round (callsIn_of_wp_marks hf hb trivial ?_ rfl)
 have h0:=hR.push fn.ntmps hargs hle
 have h1:=h Mo m _ as w n h0
 have hrd : rdOf m (s.push fn.ntmps (argTs 0 args)) = none:=rfl
 rw [hrd] at h1
 refine wpIn_mono h1 ?_
 rintro e a' w' ⟨ex,m',s',he,⟨hex,hsvl,hlpn,hres⟩,hR',hst,_,hmk⟩
 have hB : ∀ d ∈ a'.defers,∃ r,d = { target:=.collected r,args:=#[] } ∧ w.heap.size ≤ r:=fun d hd=>by
  rcases hmk d hd with h | h
  ·simp at h
  ·exact h
 have hne : s'.sv ≠ []:=fun e=>by rw [e] at hsvl; simp at hsvl
 have hfin : LeavesInM (Wd none) n P fn a'.tmps (CallPost Mo m s as w k) a'.defers .returning w':=by
  refine leaves w.heap.size hres a'.defers a' w' rfl hR' hB (fun vs c w2 hk hR2 hv hb=>?_)
  have hdep : ∀ l q,lookN l s'.lp = some q → q.depth + 1 < as.length:=by
   intro l q hl
   obtain ⟨q0,h1,h2⟩:=lpD_look hlpn hl
   rw [← h2]; exact hR.dep l q0 h1
  have hpop:=hR2.pop hne hdep
  obtain ⟨g,gs,hsv⟩:=List.exists_cons_of_ne_nil hne
  have hsvrd:=hst.svrd
  rw [hsv] at hsvrd
  simp only [Sa.push,List.map_cons,List.cons.injEq] at hsvrd
  have hbx : s'.pop.bx = s'.bx ∧ s'.pop.ow = s'.ow ∧ s'.pop.lp = s'.lp ∧ s'.pop.rd = s.rd ∧ s'.pop.sv.map (·.rd) = s.sv.map (·.rd):=by
   simp only [Sa.pop,hsv]; exact ⟨trivial,trivial,trivial,hsvrd.1,hsvrd.2⟩
  have hst2:=hst.after hb
  have hlpm : ∀ l,some l ∈ rds s → m'.lp l = m.lp l:=fun l hl=>hst.lpm l (by
   simp only [rds,Sa.push,List.map_cons,List.mem_cons] at hl ⊢
   exact .inr hl)
  refine ⟨c,mkRes vs,m',s'.pop,rfl,hk,hpop,by rw [hbx.1,hbx.2.1]; exact hv,⟨hst2.keeps,by rw [hbx.1,hbx.2.1]; exact hst2.mt,by rw [hbx.2.2.1]; exact hst2.lp,hbx.2.2.2.1,hbx.2.2.2.2,hlpm⟩,?_⟩
  simp only [rdOf,hbx.2.2.2.1]
  cases hrs : s.rd with
  | none=>rfl
  | some l=>simp only [Option.map_some,hlpm l (by simp [rds,hrs])]
 cases e with
 | normal=>cases he; exact hfin
 | ret=>cases he; exact hfin
 | exit i=>cases he; exact hex.elim
 | goto l=>cases he
 | panic c=>cases he
 | outgrown=>cases he
def BeginT (P : Program) (p : Name) (l : Name) (q : Lp) (s : Sa) (k : V → Sa → Prop) (e : Ex) (s1 : Sa) : Prop :=
 match e with
 | .norm=>match lookN l s1.lp with
  | some q1=>q1.pending = none ∧ q1.body = q.body ∧ TC P p q.body (setLp s1 l { q1 with pending:=some none }) (EndK l s k)
  | none=>False
 | _=>False
theorem TYld_enterT {l : Name} {q : Lp} {f : Fr} {args : List V} {k : V → Sa → Prop} (qn : Name) (hl : lookN l s.lp = some q) (hf : (frames s).reverse[q.depth]? = some f)
  (hps : ∀ t ∈ q.ps.toList,t < f.n) (hlen : args.length = q.ps.size)
  (h : TC P qn q.assign (s.round l f q.ps.toList args) (BeginT P qn l q s k)) : TYld P p l args s k:=by
 intro Mo m as w n vs r hR hargs
 obtain ⟨rec,a,hx⟩:=hR.lps l q hl
 refine ⟨rec,hx.heap,by rw [hargs.1,hx.ps,hlen],?_⟩
 refine roundIn_of_wpIn trivial ?_
 have hz : (rec.params.zip vs).foldl (fun tmps (x : Tmp × Value)=>tmps.setIfInBounds x.1 x.2) rec.tmps = (q.ps.toList.zip vs.toList).foldl (fun tmps x=>tmps.setIfInBounds x.1 x.2) rec.tmps:=by
  rw [← Array.foldl_toList,Array.toList_zip,hx.ps]
 have h0:=hR.round hl hx hf hps hlen hargs
 have h1:=h Mo m _ as w n h0
 have hrd : rdOf m (s.round l f q.ps.toList args) = some (m.lp l):=rfl
 rw [hrd] at h1
 have hasg : rec.assign = q.assign:=hx.assign
 have hbod : rec.body = q.body:=hx.body
 rw [hasg,hbod]
 have e0 : ((rec.params.zip vs).foldl (fun tmps (t,a)=>tmps.setIfInBounds t a) rec.tmps) = (q.ps.toList.zip vs.toList).foldl (fun tmps x=>tmps.setIfInBounds x.1 x.2) rec.tmps:=hz
 rw [e0]
 refine wpIn_mono h1 ?_
 rintro e a1 w1 ⟨ex,m1,s1,he,hk,hR1,hst1,hrd1,_⟩
 cases ex with
 | exit i=>exact hk.elim
 | ret=>exact hk.elim
 | norm =>
  have en : e = .normal:=by cases e <;> simp [exOf] at he; rfl
  subst en
  simp only [BeginT] at hk
  split at hk
  ·rename_i q1 hq1
   obtain ⟨hp1,hb1,hk⟩:=hk
   have hs1rd : s1.rd = some l:=hst1.rd
   have hm1 : m1.lp l = m.lp l:=by
    have : rdOf m1 s1 = some (m.lp l):=hrd1
    simp only [rdOf,hs1rd,Option.map_some,Option.some.injEq] at this; exact this
   obtain ⟨rc1,b1,hx1⟩:=hR1.lps l q1 hq1
   have hstat:=hx1.stat
   rw [hp1] at hstat
   refine ⟨_,by rw [← hm1]; exact run_beginRound hx1.heap hstat.1,?_⟩
   have hR2:=hR1.setLoop (q':={ q1 with pending:=some none }) (r':={ rc1 with state:=.busy }) hq1 hx1.heap ⟨rfl,rfl,rfl,rfl⟩ ⟨rfl,rfl,rfl,rfl⟩ rfl
   have hlt1 : m1.lp l < w1.heap.size:=(Array.getElem?_eq_some_iff.1 hx1.heap).1
   have hst2:=hst1.trans (Step.setLoop (q':={ q1 with pending:=some none }) (r':={ rc1 with state:=.busy }) hq1 hlt1)
   have h2:=hk Mo m1 a1 as _ n hR2
   have hrd2 : rdOf m1 (setLp s1 l { q1 with pending:=some none }) = some (m.lp l):=hrd1
   rw [hrd2] at h2
   rw [← hm1]
   rw [← hm1] at h2
   refine wpIn_mono h2 ?_
   rintro e2 a2 w2 ⟨ex2,m2,s2,he2,hk2,hR3,hst3,hrd3,_⟩
   obtain ⟨hsvl,hlpn,hk2⟩:=hk2
   split at hk2
   ·rename_i q2 hq2
    obtain ⟨rc2,b2,hx2⟩:=hR3.lps l q2 hq2
    have hs2rd : s2.rd = some l:=hst3.rd.trans hs1rd
    have hm2 : m2.lp l = m1.lp l:=by
     rw [hrd2] at hrd3
     simp only [rdOf,hs2rd,Option.map_some,Option.some.injEq] at hrd3; rw [hrd3,hm1]
    have hlt2 : m2.lp l < w2.heap.size:=(Array.getElem?_eq_some_iff.1 hx2.heap).1
    have hstt:=hst2.trans hst3
    have fin : ∀ (j : Option Code) (q3 : Lp),jmp ex2 = (match j with | none=>none | some c=>some (some c)) → q3 = { q2 with pending:=jmp ex2 } → goesOn ex2 = j.isNone →
      ∃ v w',(Instr.endRound (m1.lp l) j).run P w2 = .ok v w' ∧ CallPost Mo m s as w k (.returned v) w':=by
     intro j q3 hj hq3 hg
     refine ⟨_,_,by rw [← hm2]; exact run_endRound j hx2.heap,?_⟩
     have hR4:=hR3.setLoop (q':=q3) (r':={ rc2 with state:=if j.isNone then .ready else .done,pending:=j }) hq2 hx2.heap (by rw [hq3]; exact ⟨rfl,rfl,rfl,rfl⟩) ⟨rfl,rfl,rfl,rfl⟩ (by
      rw [hq3]; simp only [hj]
      cases j with
      | none=>exact ⟨rfl,rfl⟩
      | some c=>exact ⟨rfl,rfl⟩)
     have hst4:=hstt.trans (Step.setLoop (q':=q3) (r':={ rc2 with state:=if j.isNone then .ready else .done,pending:=j }) hq2 hlt2)
     have hne : (setLp s2 l q3).sv ≠ []:=fun e=>by simp only [setLp] at e; rw [e] at hsvl; simp at hsvl
     have hlp3 : lpD (setLp s2 l q3).lp = lpD s.lp:=by rw [← hlpn]; exact lpD_setN l q2 q3 (by rw [hq3]) _ hq2
     have hdep : ∀ nm x,lookN nm (setLp s2 l q3).lp = some x → x.depth + 1 < as.length:=by
      intro nm x hx
      obtain ⟨q0,e1,e2⟩:=lpD_look hlp3 hx
      rw [← e2]; exact hR.dep nm q0 e1
     have hpop:=hR4.pop hne hdep
     obtain ⟨g,gs,hsv⟩:=List.exists_cons_of_ne_nil hne
     have hsvrd:=hst4.svrd
     rw [hsv] at hsvrd
     simp only [Sa.round,List.map_cons,List.cons.injEq] at hsvrd
     have hbx : (setLp s2 l q3).pop.bx = (setLp s2 l q3).bx ∧ (setLp s2 l q3).pop.ow = (setLp s2 l q3).ow ∧ (setLp s2 l q3).pop.lp = (setLp s2 l q3).lp ∧ (setLp s2 l q3).pop.rd = s.rd ∧ (setLp s2 l q3).pop.sv.map (·.rd) = s.sv.map (·.rd):=by
      simp only [Sa.pop,hsv]; exact ⟨trivial,trivial,trivial,hsvrd.1,hsvrd.2⟩
     have hlpm : ∀ nm,some nm ∈ rds s → m2.lp nm = m.lp nm:=fun nm hnm=>hst4.lpm nm (by
      simp only [rds,Sa.round,List.map_cons,List.mem_cons] at hnm ⊢
      exact .inr hnm)
     refine ⟨.bool j.isNone,.d (.b (goesOn ex2)),m2,(setLp s2 l q3).pop,rfl,by rw [hq3]; exact hk2,hpop,by rw [hg]; exact .d (.v trivial),
      ⟨hst4.keeps,by rw [hbx.1,hbx.2.1]; exact hst4.mt,by rw [hbx.2.2.1]; exact hst4.lp,hbx.2.2.2.1,hbx.2.2.2.2,hlpm⟩,?_⟩
     simp only [rdOf,hbx.2.2.2.1]
     cases hrs : s.rd with
     | none=>rfl
     | some l=>simp only [Option.map_some,hlpm l (by simp [rds,hrs])]
    cases e2 with
    | normal=>cases he2; exact fin none _ rfl rfl rfl
    | ret=>cases he2; exact fin (some .ret) _ rfl rfl rfl
    | exit i=>cases he2; exact fin (some (.exit i)) _ rfl rfl rfl
    | goto l=>cases he2
    | panic c=>cases he2
    | outgrown=>cases he2
   ·exact hk2.elim
  ·exact hk.elim
theorem TC_rangeFuncT {g : Operand} {ps : Array Tmp} {assign body : Code} {gf : FuncId} {cap : List V} {fn : Func} {c : Code} {Q : Ex → Sa → Prop} (l qn : Name) (hrd : s.rd = none) (hrs : some l ∉ rds s) (hl : lookN l s.lp = none) (hy : s.ylds l = false)
  (hg : s.get g = .fn gf cap) (hycap : V.yldsL l cap = false) (hcal : callable P gf = true) (hf : P.funcs[gf]? = some fn) (hb : fn.body = some c) (hle : (V.yld l :: cap).length ≤ fn.ntmps)
  (h : TC P qn c (s.loopIn l fn.ntmps (.yld l :: cap) ⟨s.sv.length,ps,assign,body,none⟩) (LeftLoop P qn fn.results.toList l s Q)) : TC P p (.rangeFunc g ps assign body) s Q:=by
 intro Mo m a sv w n hR
 have hrd0 : rdOf m s = none:=by simp [rdOf,hrd]
 rw [hrd0]
 refine wpIn_rangeFunc (fun fnid _=>?_)
 have hgv:=hR.operand g
 rw [hg] at hgv
 obtain ⟨cs,e,hs,hrep⟩:=hgv.fn_inv
 have he:=run_enterLoop_outer (P:=P) (w:=w) fnid a.tmps ps assign body
 generalize hw1 : ((w.alloc (.deferred (some []))).alloc (.loop { state:=.ready,pending:=none,fn:=fnid,tmps:=a.tmps,params:=ps,assign,body,defers:=w.heap.size })) = w1 at he
 have hbl : Below w.heap.size w w1:=by rw [← hw1]; exact ((Below.refl _ _).alloc (Nat.le_refl _) _).alloc (by simp) _
 have hB : w1.heap[w.heap.size]? = some (.deferred (some [])):=by
  rw [← hw1]
  have h1:=World.alloc_heap_new w (.deferred (some []))
  exact heap_below (below_alloc' _ _) h1
 have hN : w1.heap[w.heap.size + 1]? = some (.loop { state:=.ready,pending:=none,fn:=fnid,tmps:=a.tmps,params:=ps,assign,body,defers:=w.heap.size }):=by
  rw [← hw1]
  have h1:=World.alloc_heap_new (w.alloc (.deferred (some []))) (.loop { state:=.ready,pending:=none,fn:=fnid,tmps:=a.tmps,params:=ps,assign,body,defers:=w.heap.size })
  simpa using h1
 refine ⟨w.heap.size + 1,[{ target:=.collected w.heap.size,args:=#[] }],w1,{ target:=.fn (.func gf) cs,args:=#[.func (.yield (w.heap.size + 1)) #[] #[]] },w1,gf,#[.func (.yield (w.heap.size + 1)) #[] #[]] ++ cs,w1,he,?_,fun _ _=>trivial,?_,depth_none,?_⟩
 ·have e1 : a.eval (.const (.func (.yield (w.heap.size + 1)) #[] #[])) = .func (.yield (w.heap.size + 1)) #[] #[]:=rfl
  simp [resolve,e,Deferred.ofValue,e1]
 ·simp only [invoke]; exact run_callFunc hcal _
 have hyall:=Sa.ylds_all hy
 have hargs : ArgsOK w1 (Tot Mo s.bx s.ow m) (m.setLp l (w.heap.size + 1)) (.yld l :: cap) (#[.func (.yield (w.heap.size + 1)) #[] #[]] ++ cs):=by
  refine ⟨by simp [hs]; omega,fun i hi=>?_⟩
  cases i with
  | zero =>
   have : (m.setLp l (w.heap.size + 1)).lp l = w.heap.size + 1:=by simp [Mp.setLp]
   simp only [List.getElem_cons_zero]
   have h0:=@RepV.yld w1 (Tot Mo s.bx s.ow m) (m.setLp l (w.heap.size + 1)) l
   rw [this] at h0
   have e2 : (#[Value.func (.yield (w.heap.size + 1)) #[] #[]] ++ cs).getD 0 undef = Value.func (.yield (w.heap.size + 1)) #[] #[]:=by
    rw [Array.getD_eq_getD_getElem?,Array.getElem?_append_left (by simp)]; rfl
   rw [e2]; exact h0
  | succ i =>
   have hi' : i < cap.length:=by simpa using hi
   have h0:=(hrep i hi').newLp (w':=w1) (l:=l) (N:=w.heap.size + 1) (fun hx=>V.yldsL_lps l cap hycap (mem_lpsL hi' hx)) hbl
   simp only [List.getElem_cons_succ]
   rw [Array.getD_eq_getD_getElem?] at h0 ⊢
   rw [Array.getElem?_append_right (by simp)]
   simpa using h0
 have h0:=hR.loopIn (ps:=ps) (assign:=assign) (body:=body) (nt:=fn.ntmps) hyall hl hbl hB (Nat.le_refl _) hN (by omega) ⟨rfl,rfl,rfl,rfl,rfl,rfl⟩ hargs hle
 refine callsIn_of_wp_marks hf hb trivial ?_ rfl
 have h1:=h Mo (m.setLp l (w.heap.size + 1)) _ _ w1 (n - 1) h0
 have hrd1 : rdOf (m.setLp l (w.heap.size + 1)) (s.loopIn l fn.ntmps (.yld l :: cap) ⟨s.sv.length,ps,assign,body,none⟩) = none:=rfl
 rw [hrd1] at h1
 refine wpIn_mono h1 ?_
 rintro e a' w' ⟨ex,m',s',hex,⟨hexx,hsvl,hlpn,hres⟩,hR',hst,_,hmk⟩
 have hmarks : ∀ d ∈ a'.defers,∃ r,d = { target:=.collected r,args:=#[] } ∧ w1.heap.size ≤ r:=fun d hd=>by
  rcases hmk d hd with h | h
  ·simp at h
  ·exact h
 have hfin : LeavesInM (Wd none) (n - 1) P fn a'.tmps (rangePost (Wd none) n P (w.heap.size + 1) (CodePost Mo m s a.defers sv w Q) { a with defers:=[{ target:=.collected w.heap.size,args:=#[] }] ++ a.defers }) a'.defers .returning w':=by
  refine leaves w1.heap.size hres a'.defers a' w' rfl hR' hmarks (fun vs cc w2 hk hR2 hv hb2=>?_)
  split at hk
  ·rename_i l0 q tl hlp
   have hl0 : l0 = l ∧ q.depth = s.sv.length ∧ lpD tl = lpD s.lp:=by
    rw [hlp] at hlpn
    simp only [lpD,List.map_cons,List.cons.injEq,Prod.mk.injEq] at hlpn
    exact ⟨hlpn.1.1,hlpn.1.2,hlpn.2⟩
   obtain ⟨rfl,hqd,htl⟩:=hl0
   have hlook : lookN l0 s'.lp = some q:=by rw [hlp]; simp [lookN]
   have hmlp : m'.lp l0 = w.heap.size + 1:=by
    have:=hst.lpm l0 (by simp [rds,Sa.loopIn])
    rw [this]; simp [Mp.setLp]
   obtain ⟨rc,b,hx⟩:=hR2.lps l0 q hlook
   have hnb : rc.state ≠ .busy:=by
    have:=hx.stat
    split at this
    ·rw [this.1]; decide
    ·rw [this.1]; decide
    ·rename_i hp; rw [hp] at hk; exact hk.elim
   have hend:=run_endLoop (P:=P) hx.heap hnb
   have hR3:=hR2.dropLoop (r':={ rc with state:=.exhausted }) hlp (lpD_none htl.symm hl) hx.heap
   have hne : ({ s' with lp:=tl } : Sa).sv ≠ []:=fun e=>by simp only at e; rw [e] at hsvl; simp at hsvl
   have hdep : ∀ nm x,lookN nm ({ s' with lp:=tl } : Sa).lp = some x → x.depth + 1 < ({ a with defers:={ target:=.collected w.heap.size,args:=#[] } :: a.defers } :: sv).length:=by
    intro nm x hx
    obtain ⟨q0,e1,e2⟩:=lpD_look htl hx
    rw [← e2]; exact hR.dep nm q0 e1
   have hpop:=(hR3.pop hne hdep).setRd none
   obtain ⟨g,gs,hsv⟩:=List.exists_cons_of_ne_nil hne
   simp only at hsv
   have hout : ({ ({ s' with lp:=tl } : Sa).pop with rd:=none } : Sa) = s'.loopOut:=by
    simp [Sa.pop,Sa.loopOut,hsv,hlp]
   rw [hout] at hpop
   have hsvrd:=hst.svrd
   rw [hsv] at hsvrd
   simp only [Sa.loopIn,List.map_cons,List.cons.injEq] at hsvrd
   have hbx : s'.loopOut.bx = s'.bx ∧ s'.loopOut.ow = s'.ow ∧ s'.loopOut.lp = tl ∧ s'.loopOut.rd = none ∧ s'.loopOut.sv.map (·.rd) = s.sv.map (·.rd):=by
    simp only [Sa.loopOut,hsv,hlp,List.tail_cons]; exact ⟨trivial,trivial,trivial,trivial,hsvrd.2⟩
   have hstep1 : Step m s w (m.setLp l0 (w.heap.size + 1)) { s with lp:=(l0,⟨s.sv.length,ps,assign,body,none⟩) :: s.lp } w1:=by
    refine ⟨.of_below hbl,fun b o _ hm=>hm,?_,rfl,rfl,?_⟩
    ·rintro b hb ⟨nm,x,hx,rfl⟩
     simp only [lookN] at hx
     split at hx
     ·rename_i e; subst e
      simp only [Mp.setLp,if_true] at hb
      omega
     ·rename_i e
      refine ⟨nm,x,hx,?_⟩
      simp only [Mp.setLp]
      rw [if_neg (Ne.symm e)]
    ·intro nm hnm
     have : nm ≠ l0:=fun e=>hrs (e ▸ hnm)
     simp [Mp.setLp,this]
   have hkp : Keeps w1 w2 (Mut s.bx s.ow (m.setLp l0 (w.heap.size + 1))) (LpB ((l0,⟨s.sv.length,ps,assign,body,none⟩) :: s.lp) (m.setLp l0 (w.heap.size + 1))):=(hst.after hb2).keeps
   have hstep2 : Step (m.setLp l0 (w.heap.size + 1)) { s with lp:=(l0,⟨s.sv.length,ps,assign,body,none⟩) :: s.lp } w1 m' s'.loopOut w2:=by
    refine ⟨hkp,?_,?_,?_,?_,?_⟩
    ·rw [hbx.1,hbx.2.1]; exact hst.mt
    ·rintro b hb ⟨nm,x,hx,rfl⟩
     rw [hbx.2.2.1] at hx
     refine hst.lp _ hb ⟨nm,x,?_,rfl⟩
     rw [hlp]; simp only [lookN]
     have : nm ≠ l0:=fun e=>by
      rw [e,lpD_none htl.symm hl] at hx; cases hx
     rw [if_neg (Ne.symm this)]; exact hx
    ·rw [hbx.2.2.2.1,← hrd]
    ·rw [hbx.2.2.2.2]
    ·intro nm hnm
     refine hst.lpm nm ?_
     simp only [rds,Sa.loopIn,List.map_cons,List.mem_cons] at hnm ⊢
     rcases hnm with h | h
     ·rw [hrd] at h; cases h
     ·exact .inr (.inr h)
   have hstep:=(hstep1.trans hstep2).after (below_putObj (B:=w.heap.size) (r:=m'.lp l0) (o:=.loop { rc with state:=.exhausted }) (by rw [hmlp]; omega))
   have hrdo : rdOf m' s'.loopOut = rdOf m s:=by simp [rdOf,hbx.2.2.2.1,hrd]
   have hnm : NewMarks a.defers w ({ target:=.collected w.heap.size,args:=#[] } :: a.defers):=fun d hd=>by
    rcases List.mem_cons.1 hd with rfl | hd
    ·exact .inr ⟨_,rfl,Nat.le_refl _⟩
    ·exact .inl hd
   generalize w2.putObj (m'.lp l0) (.loop { rc with state:=.exhausted }) = w4 at hend hpop hstep
   refine ⟨rc.pending,w4,by rw [← hmlp]; exact hend,?_⟩
   have hstat:=hx.stat
   split at hk
   ·rename_i hp
    rw [hp] at hstat
    rw [hstat.2]
    exact ⟨.norm,m',s'.loopOut,rfl,hk,hpop,hstep,hrdo,hnm⟩
   ·exact hk.elim
   ·rename_i j hp
    rw [hp] at hstat
    rw [hstat.2]
    have h9:=ev_sound hk Mo m' _ sv _ n hpop
    have hrd9 : rdOf m' s'.loopOut = none:=by rw [hrdo,hrd0]
    rw [hrd9] at h9
    exact wpIn_mono h9 (fun e a2 w2 hp=>CodePost.step hstep hrdo hnm hp)
  ·exact hk.elim
 cases e with
 | normal=>cases hex; exact hfin
 | ret=>cases hex; exact hfin
 | exit i=>cases hex; exact hexx.elim
 | goto l=>cases hex
 | panic c=>cases hex
 | outgrown=>cases hex
theorem TC_loopU {ι : Type} (S : ι → Sa) (μ : ι → Nat) {b : Code} {Q : Ex → Sa → Prop}
  (h : ∀ i,TC P p b (S i) (fun e s'=>match e with | .norm=>∃ j,Wk s' (S j) ∧ μ j < μ i | e=>Q e s')) (i : ι) : TC P p (.loop b) (S i) Q:=by
 intro Mo m a sv w n hR
 refine wpIn_loop_ix (fun j a' w'=>∃ m',Rel Mo m' (S j) (a' :: sv) w' ∧ Step m (S i) w m' (S j) w' ∧ rdOf m' (S j) = rdOf m (S i) ∧ NewMarks a.defers w a'.defers) μ ?_ i a w ⟨m,hR,Step.refl _ _ _,rfl,.refl⟩
 rintro j a1 w1 ⟨m1,hR1,hst1,hrd1,hmk1⟩
 have h1:=(h j) Mo m1 a1 sv w1 n hR1
 rw [hrd1] at h1
 refine wpIn_mono h1 ?_
 rintro e a2 w2 ⟨ex,m2,s2,he,hq,hR2,hst2,hrd2,hmk2⟩
 have hmk : NewMarks a.defers w a2.defers:=fun d hd=>by
  rcases hmk2 d hd with h | ⟨r,e,hr⟩
  ·exact hmk1 d h
  ·exact .inr ⟨r,e,Nat.le_trans hst1.keeps.size hr⟩
 cases e with
 | normal =>
  cases he
  obtain ⟨j',hw,hlt⟩:=hq
  obtain ⟨m3,hR3,hst3,hrd3⟩:=hw Mo m2 _ w2 hR2
  exact ⟨j',⟨m3,hR3,(hst1.trans hst2).trans hst3,(hrd3.trans hrd2).trans hrd1,hmk⟩,hlt⟩
 | exit i=>cases he; exact ⟨_,m2,s2,rfl,hq,hR2,hst1.trans hst2,hrd2.trans hrd1,hmk⟩
 | ret=>cases he; exact ⟨_,m2,s2,rfl,hq,hR2,hst1.trans hst2,hrd2.trans hrd1,hmk⟩
 | goto l=>cases he
 | panic c=>cases he
 | outgrown=>cases he
end Go.Ab
