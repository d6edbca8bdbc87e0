import Derived.Test.YtleeccmcgophfaaGreatPC
set_option linter.all false
namespace Go.Ab
open Go Go.RowKit
variable {P:Program} {w:World} {n:Nat} {Mo:Cells} {m:Mp} {s:Sa} {sa:List Act} {p:Name}
def MakeOK (P:Program) (f:FuncId) (ds:List D) (sz:Nat) (xs:List D):Prop :=
 ∀ (p:Name) (args:List V) (s:Sa) (nm:Name) (k:V→Sa→Prop),toDs V.toD args=some ds→k (.vsl nm) (s.vturn nm sz xs)→TCall P p f args s k
structure CloOK (P:Program) (f:FuncId) (ts te:TypeId):Prop where
 pos:tsz P te≠0
 us:P.underlying ts=some (.slice te)
 zc:isCells (tzero P te)=true
 zl:(tzero P te).cells.length=tsz P te
 nilc:∀ (n c:Nat) (w:World),Calls P f #[.slice none n c] w fun e w'=>e = .returned (.slice none 0 0)∧w' = w
 somec:∀ (a:Addr) (n c:Nat) (w w' : World) (v' : Value) (_:∀ ty,(Builtin.append_ #[ts,ts] ty #[.slice (some ⟨w.heap.size,0,none⟩) 0 0,.slice (some a) n c]).run P (w.alloc (.cells #[] te)) = .ok v' w'),
  Calls P f #[.slice (some a) n c] w fun e w1=>e = .returned v' ∧ w1=w'
theorem CloOK.make {f:FuncId} {ts te:TypeId} {xs:List D} (hI:CloOK P f ts te) (hxr:∀ x∈xs,x.cells.length=tsz P te) (hb:xs.length * tbytes P te≤140737488355328) (hmx:xs.length≤9223372036854775807):MakeOK P f [.sl xs] (tsz P te) xs:=by
 intro p args s nm k hd hk Mo m sa w nn vs r hR hargs
 have hz:=hI.pos
 obtain ⟨d1,d2⟩:=toDs_spec hd
 obtain ⟨y,rfl⟩:=List.length_eq_one_iff.1 (d1.symm.trans (by rfl):args.length=1)
 have a0:=(hargs.2 0 (by simp)).toD (d2 0 (by simp) (by simp))
 simp only [List.getElem_cons_zero] at a0
 obtain ⟨ya,yc,sz',yb,yo,cv,ec,hc1,hc2,ha,hsz,hcell,hrep⟩:=a0.sl_inv
 have evs:vs = #[.slice ya xs.length yc]:=by
  have hs:vs.size=1:=by rw [hargs.1];rfl
  apply Array.ext
  ·grind
  simp_all
 rw [evs]
 refine callsIn_round (callsIn_wide.2 ?_)
 have post:∀ (w' : World) (reg:Nat×Nat×Nat) (hd:Option Addr×Nat×Nat),Rel Mo (m.vturn nm reg hd) (s.vturn nm (tsz P te) xs) sa w' → Step m s w (m.vturn nm reg hd) (s.vturn nm (tsz P te) xs) w' →
   ∀ e w1,(e = .returned (.slice hd.1 hd.2.1 hd.2.2)∧w1=w')→CallPost Mo m s sa w k e w1:=by
  rintro w' reg hd g2 g3 e w1 ⟨rfl,rfl⟩
  refine ⟨_,.vsl nm,_,_,rfl,hk,g2,?_,g3,by rfl⟩
  have:=@RepV.vsl w1 (Tot Mo (s.vturn nm (tsz P te) xs).bx (s.vturn nm (tsz P te) xs).ow (m.vturn nm reg hd)) (m.vturn nm reg hd) nm
  simpa [Mp.vturn] using this
 have empty:∀ (w' : World) (base:Option Addr),xs=[]→Below w.heap.size w w' → Rel Mo (m.vturn nm (0,0,0) (base,0,0)) (s.vturn nm (tsz P te) xs) sa w' ∧ Step m s w (m.vturn nm (0,0,0) (base,0,0)) (s.vturn nm (tsz P te) xs) w':=by
  intro w' base hx hbl
  subst hx
  exact hR.vecTurn nm (0,0,0) (0,0,0) (base,0,0) (tsz P te) [] (w':=w') (fun h=>by simp [nonempty] at h) ⟨hbl.os,hbl.tape,hbl.output,hbl.size⟩ (fun b hb' _=>hbl.block b hb') (fun h=>by simp [nonempty] at h) (fun h=>by simp [nonempty] at h)
   (.inl ⟨rfl,rfl⟩) rfl (by simp) (by simp) (by simp) (by simp) (fun j hj=>by simp [flatD] at hj)
 cases ya with
 | none =>
  have hx:xs=[]:=Classical.byContradiction fun h=>by have:=ha h;cases this
  obtain ⟨g1,g2⟩:=empty w none hx (Below.refl _ _)
  exact (hI.nilc _ _ w).mono (post w (0,0,0) (none,0,0) g1 g2)
 | some a =>
  obtain ⟨W0,hW0⟩:∃ W0,W0=w.alloc (.cells #[] te):=⟨_,rfl⟩
  have hbl0:Below w.heap.size w W0:=by rw [hW0];exact (Below.refl _ w).alloc (Nat.le_refl _) _
  have hR0:=hR.below hbl0
  obtain ⟨zi,z,hzi,hzz,hzcv⟩:=tzero_inv hI.zc
  have hzs:z.cells.size=tsz P te:=by
   have:=(repV_const (w:=w) (M:=fun _ _=>False) (m:=m) z).csOK (by rw [← hzcv];exact hI.zc)
   rw [this.size,← hzcv];exact hI.zl
  have a0' : RepD W0 (Tot Mo s.bx s.ow m) (.sl xs) (.slice (some a) xs.length yc):=by rw [← ec];exact a0.mono (stab_below _ hbl0)
  obtain ⟨L,hnew,oky,aty⟩:=run_firstCells (P:=P) a0' hxr hz
  have happ:=fun ty=>run_append (P:=P) (w:=W0) (ty:=ty) (ts:=#[ts,ts]) (args:=#[.slice (some ⟨w.heap.size,0,none⟩) 0 0,.slice (some a) xs.length yc]) (L:=L) (old:=[]) (base:=some ⟨w.heap.size,0,none⟩) (len:=0) (cap:=0) (y:=.slice (some a) xs.length yc) (ny:=xs.length) rfl rfl hI.us hI.us hz ⟨zi,hzi,hzz⟩ rfl rfl rfl
   (by rw [Nat.zero_add];exact hb) (by omega) hnew (fun w' _=>by
    simp only [Builtin.firstCells,Nat.zero_mul]
    exact run_loadCells w' _ 0 (fun _=>undef) (fun q hq=>absurd hq (Nat.not_lt_zero _))) (fun h0 ad had=>by
    have hL0:L=[]:=List.eq_nil_of_length_eq_zero (by rw [oky.len,show xs.length=0 from by omega];simp)
    rw [hL0];rfl)
  by_cases hx0:xs.length=0
  ·have hx:xs=[]:=List.eq_nil_of_length_eq_zero hx0
   have hL0:L=[]:=List.eq_nil_of_length_eq_zero (by rw [oky.len,hx0];simp)
   obtain ⟨g1,g2⟩:=empty W0 (some ⟨w.heap.size,0,none⟩) hx hbl0
   refine (hI.somec a xs.length yc w W0 (.slice (some ⟨w.heap.size,0,none⟩) 0 0) (fun ty=>?_)).mono (post W0 (0,0,0) (some ⟨w.heap.size,0,none⟩,0,0) g1 g2)
   rw [← hW0]
   rcases happ ty with ⟨_,h⟩ | ⟨h,_⟩
   ·rw [h,hL0,hx0];rfl
   ·omega
  ·rcases happ ts with ⟨h,_⟩ | ⟨hcc,nc,rest,⟨hnc,hncm⟩,hrun,hrest⟩
   ·omega
   ·have hbl:Below W0.heap.size W0 (W0.drew.alloc (.cells (([]:List Value).toArray++L.toArray++rest) te)):=((Below.refl _ W0).drew).alloc (Nat.le_refl _) _
    have hnewb:(W0.drew.alloc (.cells (([]:List Value).toArray++L.toArray++rest) te)).heap[W0.heap.size]? = some (.cells (([]:List Value).toArray++L.toArray++rest) te (0,0)):=World.alloc_heap_new W0.drew _
    have hnn:(nc - (0+xs.length)) * tsz P te+xs.length * tsz P te=nc * tsz P te:=by rw [← Nat.add_mul];congr 1;omega
    rw [hzs] at hrest
    have hLl:=oky.len
    have hsize:(([]:List Value).toArray++L.toArray++rest).size=nc * tsz P te:=by
     simp only [Array.size_append,List.size_toArray,List.length_nil,hLl,hrest];omega
    have hz0:0<tsz P te:=Nat.pos_of_ne_zero hz
    obtain ⟨g1,g2⟩:=hR0.vecTurn nm (0,0,0) (W0.heap.size,0,nc * tsz P te) (some ⟨W0.heap.size,0,none⟩,xs.length,nc) (tsz P te) xs (w':=W0.drew.alloc (.cells (([]:List Value).toArray++L.toArray++rest) te)) (fun h=>by simp [nonempty] at h)
     ⟨hbl.os,hbl.tape,hbl.output,hbl.size⟩ (fun b hb' _=>hbl.block b hb') (fun h=>by simp [nonempty] at h) (fun _=>.inr (Nat.le_refl _)) (.inr ⟨W0.heap.size,_,te,rfl,rfl,hnewb,by simp only;omega⟩) rfl (by simp only;omega) hncm hmx hxr (fun j hj=>by
      have hjl:j<L.length:=by rw [hLl,← flatD_len hxr];exact hj
      refine ⟨L.getD j undef,?_,?_,oky.flat hz0 j hj⟩
      ·simp only [Nat.zero_add]
       rw [cell_of_block hnewb,Array.getElem?_append_left (by simp;omega)]
       simp [List.getD_eq_getElem?_getD,List.getElem?_eq_getElem hjl]
      ·rw [List.getD_eq_getElem?_getD,List.getElem?_eq_getElem hjl];exact oky.leafs _ (List.getElem_mem hjl))
    rw [Nat.zero_add] at hrun
    refine (hI.somec a xs.length yc w _ (.slice (some ⟨W0.heap.size,0,none⟩) xs.length nc) (fun ty=>?_)).mono (post _ (W0.heap.size,0,nc * tsz P te) (some ⟨W0.heap.size,0,none⟩,xs.length,nc) g1 ((Step.of_below hbl0).trans g2))
    rw [← hW0]
    rcases happ ty with ⟨h,_⟩ | ⟨hcc',nc',rest',_,hrun',hrest'⟩
    ·omega
    ·exact (show (Builtin.append_ #[ts,ts] ty _).run P W0=(Builtin.append_ #[ts,ts] ts _).run P W0 from rfl).trans hrun
theorem Rel.vecData (h:Rel Mo m s sa w) {nm:Name} {sz:Nat} {xs:List D} (hc:lookN nm s.vc=some (sz,xs)):RepD w Mo (.sl xs) (.slice (m.vl nm).1 (m.vl nm).2.1 (m.vl nm).2.2):=by
 obtain ⟨hn,hv⟩:=h.vec nm _ hc
 simp only at hv
 rw [hv.len]
 rcases hv.hd with hd | ⟨b,c,T,ha,hrow,hblk,hsz⟩
 ·have hx:xs=[]:=List.eq_nil_of_length_eq_zero (by have:=hv.cap;omega)
  subst hx
  exact RepD.sl (xs:=[]) 0 0 0 (fun _ _=>undef) (by simp) (by simp) (by simp) (by simp) (by simp) (by simp)
 ·have hcell:∀ k (hk:k<xs.length) j (hj:j<xs[k].cells.length),∃ v,w.cell? ⟨b,0+k * sz+j,none⟩=some v∧leaf v=true∧RepD w (Tot Mo s.bx s.ow m) (xs[k].cells)[j] v∧¬ Mo b (0+k * sz+j):=by
   intro k hk j hj
   have hsz':=hv.sz _ (List.getElem_mem hk)
   rw [hsz'] at hj
   have hz0:0<sz:=by omega
   have hlt:=mul_lt hk hj
   obtain ⟨v,h1,h2,h3⟩:=hv.cells (k * sz+j) (by rw [flatD_len hv.sz];exact hlt)
   rw [hrow] at h1
   simp only [Nat.zero_add] at h1
   have hg:=flatD_get hz0 hv.sz (k * sz+j)
   have e1:(k * sz+j) / sz=k:=by rw [Nat.mul_comm,Nat.mul_add_div hz0,Nat.div_eq_of_lt hj,Nat.add_zero]
   have e2:(k * sz+j) % sz=j:=by rw [Nat.mul_comm,Nat.mul_add_mod,Nat.mod_eq_of_lt hj]
   rw [e1,e2,List.getElem?_eq_getElem (by rw [flatD_len hv.sz];exact hlt),List.getElem?_eq_getElem hk,Option.bind_some,List.getElem?_eq_getElem (by omega),Option.some.injEq] at hg
   have hcap:=Nat.mul_le_mul_right sz hv.cap
   have hne:nonempty (m.ow nm):=by rw [hrow];simp only [nonempty];omega
   refine ⟨v,by rw [Nat.zero_add];exact h1,h2,by rw [← hg];exact h3,fun hm=>h.owm nm hn hne _ (by rw [hrow];exact hm)⟩
  rw [ha]
  refine RepD.sl sz b 0 (fun k j=>(w.cell? ⟨b,0+k * sz+j,none⟩).getD undef) hv.cap hv.mx (fun _=>rfl) (fun k hk=>hv.sz _ (List.getElem_mem hk)) (fun k hk j hj=>?_) (fun k hk j hj=>?_)
  ·obtain ⟨v,h1,h2,_,h4⟩:=hcell k hk j hj
   rw [h1];exact ⟨rfl,h2,h4⟩
  ·obtain ⟨v,h1,_,h3,_⟩:=hcell k hk j hj
   simp only [h1,Option.getD_some]
   exact h3.mono (fun b o c hc hm=>⟨hc,fun h=>hm (.inl h)⟩)
theorem MakeOK.pure {f:FuncId} {ds:List D} {sz:Nat} {xs:List D} (h:MakeOK P f ds sz xs):PureOK P f ds [.sl xs]:=by
 intro M w n vs hlt hs hr
 have h0:=rel_start (m:=⟨fun _=>0,fun _=>(0,0,0),fun _=>0,fun _=>(none,0,0)⟩) ds.length hlt hs hr (Nat.le_refl _)
 have hargs:ArgsOK w (Tot M (s0 ds.length ds).bx (s0 ds.length ds).ow ⟨fun _=>0,fun _=>(0,0,0),fun _=>0,fun _=>(none,0,0)⟩) ⟨fun _=>0,fun _=>(0,0,0),fun _=>0,fun _=>(none,0,0)⟩ (ds.map .d) vs:=by
  refine ⟨by grind,fun i hi=>?_⟩
  simp only [List.length_map] at hi
  simp only [List.getElem_map]
  refine .d ((hr i hi).mono (fun b o c hc hm=>⟨hc,fun ht=>hm ?_⟩))
  rcases ht with ht | ⟨nm,c,hn,_⟩ | ⟨i,hi,_⟩
  ·grind
  ·simp [s0,lookN] at hn
  grind
 have hd:∀ ds:List D,toDs V.toD (ds.map V.d)=some ds:=by
  intro ds
  induction ds with
  | nil=>rfl
  | cons d ds ih=>simp [toDs,V.toD,V.toD1,ih]
 have hc:=h [] (ds.map .d) (s0 ds.length ds) [] (fun v s'=>v = .vsl []∧s' = (s0 ds.length ds).vturn [] sz xs) (hd ds) ⟨rfl,rfl⟩ M _ _ w n vs none h0 hargs
 refine hc.mono ?_
 rintro e w' ⟨c,v,m',s',rfl,⟨rfl,rfl⟩,hR',hv,hst,_⟩
 refine ⟨c,rfl,⟨hst.keeps.os,hst.keeps.tape,hst.keeps.output,hst.keeps.size,fun b hb'=>hst.keeps.blk b hb' (fun o ho=>?_) (fun hl=>?_)⟩,fun m2=>?_⟩
 ·rcases ho with ⟨nm,c,hn,_⟩ | ⟨i,hi,_⟩
  ·simp [s0,lookN] at hn
  grind
 ·obtain ⟨l,q,hl,_⟩:=hl
  simp [s0,lookN] at hl
 ·have hcv:=hv.vsl_inv
  have:=hR'.vecData (nm:=[]) (sz:=sz) (xs:=xs) (by rfl)
  rw [hcv]
  exact .d this
end Go.Ab
namespace Go.Ab
open Go Go.RowKit
variable {P:Program} {w:World} {n:Nat} {Mo:Cells} {m:Mp} {s:Sa} {p:Name} {k:Sa→Prop}
def PCall (P:Program) (g:FuncId) (args:List V) (s:Sa) (k:V→Sa→Prop):Prop:=∃ ds rs,toDs V.toD args=some ds∧PureOK P g ds rs∧k (mkRes (rs.map .d)) s
theorem PCall_pure {f:FuncId} {args:List V} {ds rs:List D} {k:V→Sa→Prop} (h:PureOK P f ds rs) (hd:toDs V.toD args=some ds) (hk:k (mkRes (rs.map .d)) s):PCall P f args s k:=⟨ds,rs,hd,h,hk⟩
def semsP (P:Program):Sems:={ thr:=noThr,call:=fun _ g args s k=>PCall P g args s k,yld:=fun _ _ _ _ _=>False,code:=fun _ _ _ _=>False }
def calm:Op→Bool
 | .move _ | .assign _ | .pick _ _ _ | .load _ _ | .fieldAddr _ _ _ | .field _ _ _ | .index _ _ _ | .indexAddr _ _ _ | .binOp _ _ _ _ _ | .unOp _ _ _ | .convert _ _ _ | .build _ _ | .slice _ _ _ _ none | .extract _ _ | .nilCheck _=>true
 | .buildSlice _ l _=>l != 0
 | .call c=>match c.callee with | .builtin .len=>true | .builtin .max=>true | .builtin .min=>true | .value _=>true | _=>false
 | .makeFunc (.func _) _ _=>true
 | .lookup _ _ _ _=>true
 | _=>false
theorem binV_ex {t:TypeId} {op:BinOp} {x y:Value} {k:V→Prop} (h:binV P t op x y k):∃ v,k v∧∀ k' : V→Prop,k' v→binV P t op x y k':=by
 unfold binV at h ⊢
 split at h
 ·cases op <;> simp only at h ⊢ <;> first
   | exact ⟨_,h.2,fun k' hk=>⟨h.1,hk⟩⟩
   | exact ⟨_,h.2.2,fun k' hk=>⟨h.1,h.2.1,hk⟩⟩
   | (simp only [cmpInt,arith] at h ⊢; exact ⟨_,h.2,fun k' hk=>⟨h.1,hk⟩⟩)
   | (simp only [cmpInt,arith] at h ⊢; exact h.2.elim)
 ·cases op <;> simp only at h ⊢ <;> first
   | exact ⟨_,h.2,fun k' hk=>⟨h.1,hk⟩⟩
   | exact h.2.elim
 ·cases op <;> simp only at h ⊢ <;> first
   | exact ⟨_,h,fun k' hk=>hk⟩
   | exact h.elim
 ·exact h.elim
theorem unV_ex {op:UnOp} {x:Value} {k:V→Prop} (h:unV op x k):∃ v,k v∧∀ k' : V→Prop,k' v→unV op x k':=by
 unfold unV at h ⊢
 split at h
 ·exact ⟨_,h,fun k' hk=>hk⟩
 ·exact ⟨_,h,fun k' hk=>hk⟩
 ·exact h.elim
def V.notNil:V→Bool
 | .nil=>false
 | _=>true
def nilOK (s:Sa):Op→Bool
 | .binOp _ _ _ y _=>(s.get y).notNil
 | .assign x=>(s.get x).notNil
 | _=>true
def BxExt (s s' : Sa):Prop:=(∀ nm c,lookN nm s.bx=some c→lookN nm s'.bx=some c)∧∀ nm c,lookN nm s.vc=some c→lookN nm s'.vc=some c
theorem claim_notNil {s:Sa} {i:Name} {sz:Option Nat} {v:V} (h:v.notNil=true):s.claim i sz v=(v,s):=by
 unfold Sa.claim
 split
 ·simp [V.notNil] at h
 ·rfl
theorem calm_congr {o:Oper} (hc:calm o.op=true) (hnil:nilOK s o.op=true) (h:evOp P (semsP P) p o s k):∃ v,k (s.put o.dst v) ∧
  ∀ s' : Sa,BxExt s s' → s'.n=s.n→(∀ x∈o.op.operands,s'.get x=s.get x)→∀ k' : Sa→Prop,k' (s'.put o.dst v)→evOp P (semsP P) p o s' k':=by
 cases hop:o.op with
 | move x =>
  simp only [evOp,hop] at h ⊢
  exact ⟨_,h,fun s' hb hn hg k' hk=>by rw [hg x (by simp [Op.operands])];exact hk⟩
 | assign x =>
  simp only [nilOK,hop] at hnil
  simp only [evOp,hop] at h ⊢
  rw [claim_notNil hnil] at h
  exact ⟨_,h,fun s' hb hn hg k' hk=>by
   have e:=hg x (by simp [Op.operands])
   rw [claim_notNil (by rw [e];exact hnil),e];exact hk⟩
 | pick c x y =>
  simp only [evOp,hop] at h ⊢
  split at h
  ·rename_i t hct
   cases t with
   | true=>exact ⟨_,h.1 rfl,fun s' hb hn hg k' hk=>by
     rw [hg c (by simp [Op.operands]),hct,hg x (by simp [Op.operands])];exact ⟨fun _=>hk,fun e=>(by cases e)⟩⟩
   | false=>exact ⟨_,h.2 rfl,fun s' hb hn hg k' hk=>by
     rw [hg c (by simp [Op.operands]),hct,hg y (by simp [Op.operands])];exact ⟨fun e=>(by cases e),fun _=>hk⟩⟩
  ·exact h.elim
 | load t x =>
  simp only [evOp,hop] at h ⊢
  split at h
  ·rename_i ag hag
   obtain ⟨h0,h⟩:=h
   split at h
   ·rename_i nm off hx
    split at h
    ·rename_i c hcb
     exact ⟨_,h.2,fun s' hb hn hg k' hk=>by simp only [hag,hg x (by simp [Op.operands]),hx,hb.1 _ _ hcb];exact ⟨h0,h.1,hk⟩⟩
    ·exact h.elim
   ·rename_i cs hx
    exact ⟨_,h.2,fun s' hb hn hg k' hk=>by simp only [hag,hg x (by simp [Op.operands]),hx];exact ⟨h0,h.1,hk⟩⟩
   ·rename_i nm off hx
    split at h
    ·rename_i c hcb
     exact ⟨_,h.2,fun s' hb hn hg k' hk=>by simp only [hag,hg x (by simp [Op.operands]),hx,hb.2 _ _ hcb];exact ⟨h0,h.1,hk⟩⟩
    ·exact h.elim
   ·exact h.elim
  ·exact h.elim
 | fieldAddr t x i =>
  simp only [evOp,hop] at h ⊢
  split at h
  ·rename_i off ft hf
   obtain ⟨h0,h⟩:=h
   split at h
   ·rename_i nm o' hx
    exact ⟨_,h,fun s' hb hn hg k' hk=>by simp only [hf,hg x (by simp [Op.operands]),hx];exact ⟨h0,hk⟩⟩
   ·rename_i cs hx
    exact ⟨_,h,fun s' hb hn hg k' hk=>by simp only [hf,hg x (by simp [Op.operands]),hx];exact ⟨h0,hk⟩⟩
   ·rename_i nm o' hx
    exact ⟨_,h,fun s' hb hn hg k' hk=>by simp only [hf,hg x (by simp [Op.operands]),hx];exact ⟨h0,hk⟩⟩
   ·exact h.elim
  ·exact h.elim
 | field t x i =>
  simp only [evOp,hop] at h ⊢
  split at h
  ·rename_i off ft hf
   split at h
   ·rename_i ag hag
    exact ⟨_,h.2.2.2,fun s' hb hn hg k' hk=>by simp only [hf,hag,hg x (by simp [Op.operands])];exact ⟨h.1,h.2.1,h.2.2.1,hk⟩⟩
   ·exact h.elim
  ·exact h.elim
 | index t x ix =>
  simp only [evOp,hop] at h ⊢
  split at h
  ·rename_i i hi
   split at h
   ·rename_i nn e hne
    split at h
    ·rename_i ag hag
     exact ⟨_,h.2.2.2.2.2,fun s' hb hn hg k' hk=>by simp only [hg x (by simp [Op.operands]),hg ix (by simp [Op.operands]),hi,hne,hag];exact ⟨h.1,h.2.1,h.2.2.1,h.2.2.2.1,h.2.2.2.2.1,hk⟩⟩
    ·exact h.elim
   ·rename_i hne
    split at h
    ·rename_i b hu hx
     obtain ⟨h0,c,hc,h⟩:=h
     exact ⟨_,h,fun s' hb hn hg k' hk=>by simp only [hg x (by simp [Op.operands]),hg ix (by simp [Op.operands]),hi,hne,hu,hx];exact ⟨h0,c,hc,hk⟩⟩
    ·exact h.elim
  ·exact h.elim
 | indexAddr t x ix =>
  simp only [evOp,hop] at h ⊢
  split at h
  ·rename_i i hi
   split at h
   ·rename_i e he
    split at h
    ·rename_i xs hxs
     obtain ⟨h1,h2,h3,h4⟩:=h
     have hlt:i.toNat<xs.length:=by omega
     obtain ⟨h5,h6⟩:=h4 _ (List.getElem?_eq_getElem hlt)
     refine ⟨_,h6,fun s' hb hn hg k' hk=>?_⟩
     simp only [hg x (by simp [Op.operands]),hg ix (by simp [Op.operands]),hi,he,hxs]
     refine ⟨h1,h2,h3,fun x hx=>?_⟩
     rw [List.getElem?_eq_getElem hlt] at hx
     cases hx
     exact ⟨h5,hk⟩
    ·rename_i hxs
     split at h
     ·rename_i nm hx
      split at h
      ·rename_i c hc'
       obtain ⟨h1,h2,h3,h4,h5⟩:=h
       refine ⟨_,h5,fun s' hb hn hg k' hk=>?_⟩
       simp only [hg x (by simp [Op.operands]),hg ix (by simp [Op.operands]),hi,he,hxs,hx,hb.2 _ _ hc']
       exact ⟨h1,h2,h3,h4,hk⟩
      ·exact h.elim
     ·exact h.elim
   ·rename_i he
    split at h
    ·rename_i nn e hne
     obtain ⟨h1,h2,h3,h4,h⟩:=h
     split at h
     ·rename_i b o' hx
      exact ⟨_,h,fun s' hb hn hg k' hk=>by simp only [hg x (by simp [Op.operands]),hg ix (by simp [Op.operands]),hi,he,hne,hx];exact ⟨h1,h2,h3,h4,hk⟩⟩
     ·rename_i cs hx
      exact ⟨_,h,fun s' hb hn hg k' hk=>by simp only [hg x (by simp [Op.operands]),hg ix (by simp [Op.operands]),hi,he,hne,hx];exact ⟨h1,h2,h3,h4,hk⟩⟩
     ·rename_i b o' hx
      exact ⟨_,h,fun s' hb hn hg k' hk=>by simp only [hg x (by simp [Op.operands]),hg ix (by simp [Op.operands]),hi,he,hne,hx];exact ⟨h1,h2,h3,h4,hk⟩⟩
     ·exact h.elim
    ·exact h.elim
  ·exact h.elim
 | binOp op t x y u =>
  simp only [evOp,hop] at h ⊢
  split at h
  ·rename_i b hb
   split at h
   ·rename_i a ha
    obtain ⟨v,hv,hk⟩:=binV_ex h
    exact ⟨v,hv,fun s' hb' hn hg k' hk'=>by simp only [hg x (by simp [Op.operands]),hg y (by simp [Op.operands]),ha,hb];exact hk (fun v=>k' (s'.put o.dst v)) hk'⟩
   ·exact h.elim
  ·rename_i ys hys
   split at h
   ·rename_i xs hxs
    split at h
    ·rename_i ks hks
     split at h
     ·rename_i r hr
      split at h
      ·exact ⟨_,h,fun s' hb' hn hg k' hk'=>by simp only [hg x (by simp [Op.operands]),hg y (by simp [Op.operands]),hxs,hys,hks,hr];exact hk'⟩
      ·exact ⟨_,h,fun s' hb' hn hg k' hk'=>by simp only [hg x (by simp [Op.operands]),hg y (by simp [Op.operands]),hxs,hys,hks,hr];exact hk'⟩
      ·exact h.elim
     ·exact h.elim
    ·exact h.elim
   ·exact h.elim
  ·rename_i hy
   simp [hop,nilOK,hy,V.notNil] at hnil
  ·exact h.elim
 | unOp op t x =>
  simp only [evOp,hop] at h ⊢
  split at h
  ·rename_i a ha
   obtain ⟨v,hv,hk⟩:=unV_ex h
   exact ⟨v,hv,fun s' hb' hn hg k' hk'=>by simp only [hg x (by simp [Op.operands]),ha];exact hk (fun v=>k' (s'.put o.dst v)) hk'⟩
  ·exact h.elim
 | convert t u x =>
  simp only [evOp,hop] at h ⊢
  split at h
  ·rename_i kd q c hu hx
   exact ⟨_,h.2,fun s' hb' hn hg k' hk'=>by simp only [hg x (by simp [Op.operands]),hu,hx];exact ⟨h.1,hk'⟩⟩
  ·exact h.elim
 | build t ps =>
  simp only [evOp,hop] at h ⊢
  obtain ⟨h1,h2,h⟩:=h
  split at h
  ·rename_i cs hcs
   refine ⟨_,h,fun s' hb' hn hg k' hk'=>?_⟩
   have e:(ps.toList.map fun x=>(x.1,s'.get x.2))=ps.toList.map fun x=>(x.1,s.get x.2):=List.map_congr_left fun x hx=>by
    rw [hg x.2 (by simp only [Op.operands,List.mem_toArray,List.mem_map];exact ⟨x,hx,rfl⟩)]
   simp only [e,hcs]
   exact ⟨h1,h2,hk'⟩
  ·exact h.elim
 | buildSlice t l ps =>
  have hl:l≠0:=by simpa [calm,hop] using hc
  simp only [evOp,hop] at h ⊢
  split at h
  ·rename_i e he
   obtain ⟨h1,h2,h3,h4,h⟩:=h
   split at h
   ·rename_i xs hxs
    rw [if_neg hl] at h
    refine ⟨_,h.2,fun s' hb' hn hg k' hk'=>?_⟩
    have e' : (ps.toList.map fun x=>s'.get x.2)=ps.toList.map fun x=>s.get x.2:=List.map_congr_left fun x hx=>by
     rw [hg x.2 (by simp only [Op.operands,List.mem_toArray,List.mem_map];exact ⟨x,hx,rfl⟩)]
    simp only [he,e',hxs,if_neg hl]
    exact ⟨h1,h2,h3,h4,h.1,hk'⟩
   ·exact h.elim
  ·exact h.elim
 | slice t x lo hi mx =>
  cases mx with
  | some y=>simp [calm,hop] at hc
  | none =>
   cases lo with
   | none =>
    cases hi with
    | none =>
     simp only [evOp,hop] at h ⊢
     split at h
     ·rename_i e xs l he hxs hl
      exact ⟨_,h.2.2.2.2.2,fun s' hb' hn hg k' hk'=>by simp only [hg x (by simp [Op.operands]),he,hxs,hl];exact ⟨h.1,h.2.1,h.2.2.1,h.2.2.2.1,h.2.2.2.2.1,hk'⟩⟩
     ·exact h.elim
    | some hi =>
     simp only [evOp,hop] at h ⊢
     split at h
     ·rename_i e xs l he hxs hl
      split at h
      ·rename_i hh hhi
       exact ⟨_,h.2.2.2.2.2,fun s' hb' hn hg k' hk'=>by simp only [hg x (by simp [Op.operands]),hg hi (by simp [Op.operands]),he,hxs,hl,hhi];exact ⟨h.1,h.2.1,h.2.2.1,h.2.2.2.1,h.2.2.2.2.1,hk'⟩⟩
      ·exact h.elim
     ·exact h.elim
   | some lo =>
    cases hi with
    | none =>
     simp only [evOp,hop] at h ⊢
     split at h
     ·rename_i e xs l he hxs hl
      exact ⟨_,h.2.2.2.2.2,fun s' hb' hn hg k' hk'=>by simp only [hg x (by simp [Op.operands]),hg lo (by simp [Op.operands]),he,hxs,hl];exact ⟨h.1,h.2.1,h.2.2.1,h.2.2.2.1,h.2.2.2.2.1,hk'⟩⟩
     ·exact h.elim
    | some hi =>
     simp only [evOp,hop] at h ⊢
     split at h
     ·rename_i e xs l he hxs hl
      split at h
      ·rename_i hh hhi
       exact ⟨_,h.2.2.2.2.2,fun s' hb' hn hg k' hk'=>by simp only [hg x (by simp [Op.operands]),hg lo (by simp [Op.operands]),hg hi (by simp [Op.operands]),he,hxs,hl,hhi];exact ⟨h.1,h.2.1,h.2.2.1,h.2.2.2.1,h.2.2.2.2.1,hk'⟩⟩
      ·exact h.elim
     ·exact h.elim
 | extract x i =>
  simp only [evOp,hop] at h ⊢
  split at h
  ·rename_i vs hx
   split at h
   ·rename_i v hv
    exact ⟨_,h,fun s' hb' hn hg k' hk'=>by simp only [hg x (by simp [Op.operands]),hx,hv];exact hk'⟩
   ·exact h.elim
  ·exact h.elim
 | nilCheck x =>
  simp only [evOp,hop] at h ⊢
  split at h
  ·rename_i nm off hx
   exact ⟨_,h,fun s' hb' hn hg k' hk'=>by simp only [hg x (by simp [Op.operands]),hx];exact hk'⟩
  ·rename_i cs hx
   exact ⟨_,h,fun s' hb' hn hg k' hk'=>by simp only [hg x (by simp [Op.operands]),hx];exact hk'⟩
  ·rename_i nm off hx
   exact ⟨_,h,fun s' hb' hn hg k' hk'=>by simp only [hg x (by simp [Op.operands]),hx];exact hk'⟩
  ·exact h.elim
 | makeFunc fn fi cp =>
  cases fn with
  | func f =>
   simp only [evOp,hop] at h ⊢
   obtain ⟨hlt,h⟩:=h
   split at h
   ·rename_i hf
    refine ⟨_,h,fun s' hb hn hg k' hk=>⟨hlt,?_⟩⟩
    have e' : (cp.toList.map fun x=>s'.get x)=cp.toList.map fun x=>s.get x:=List.map_congr_left fun x hx=>by
     rw [hg x (by simp only [Op.operands,Array.mem_append];exact .inr (by simpa using hx))]
    rw [if_pos hf,show cp.toList.map s'.get=cp.toList.map s.get from e'];exact hk
   ·rename_i hf
    refine ⟨_,h.2,fun s' hb hn hg k' hk=>⟨hlt,?_⟩⟩
    have e' : (fi.toList.map fun x=>s'.get x)=fi.toList.map fun x=>s.get x:=List.map_congr_left fun x hx=>by
     rw [hg x (by simp only [Op.operands,Array.mem_append];exact .inl (by simpa using hx))]
    rw [if_neg hf,show fi.toList.map s'.get=fi.toList.map s.get from e'];exact ⟨h.1,hk⟩
  | _=>simp [calm,hop] at hc
 | lookup t x ix ok =>
  simp only [evOp,hop] at h ⊢
  split at h
  ·rename_i kd et nm hk1 hk2 hx
   split at h
   ·rename_i kd' kvs hb0
    obtain ⟨e1,h⟩:=h
    split at h
    ·rename_i kd2 a hix
     exact ⟨_,h.2.2,fun s' hb hn hg k' hk=>by simp only [hk1,hk2,hg x (by simp [Op.operands]),hx,hb.1 _ _ hb0,hg ix (by simp [Op.operands]),hix];exact ⟨e1,h.1,h.2.1,hk⟩⟩
    ·exact h.elim
   ·exact h.elim
  ·exact h.elim
 | call c =>
  have eargs:∀ s' : Sa,(∀ z∈(Op.call c).operands,s'.get z=s.get z)→c.args.toList.map s'.get=c.args.toList.map s.get:=fun s' hg =>
   List.map_congr_left fun x hx=>hg x (by simp only [Op.operands,Call.operands];simp;exact .inr (by simpa using hx))
  cases hcc:c.callee with
  | value f =>
   simp only [evOp,hop,hcc] at h ⊢
   have hf:∀ s' : Sa,(∀ z∈(Op.call c).operands,s'.get z=s.get z)→s'.get f=s.get f:=fun s' hg=>hg f (by simp only [Op.operands,Call.operands,hcc];simp)
   split at h
   ·rename_i g x y hg'
    obtain ⟨h1,ds,rs,h2,h3,h4,h5⟩:=h
    exact ⟨_,h5,fun s' hb' hn hg k' hk'=>by simp only [hf s' hg,hg',eargs s' hg];exact ⟨h1,ds,rs,h2,h3,fun d hd=>by rw [hn];exact h4 d hd,hk'⟩⟩
   ·rename_i g cap hg'
    split at h
    ·rename_i hlt
     obtain ⟨h1,ds,rs,h2,h3,h4,h5⟩:=h
     exact ⟨_,h5,fun s' hb' hn hg k' hk'=>by simp only [hf s' hg,hg',eargs s' hg,if_pos hlt];exact ⟨h1,ds,rs,h2,h3,fun d hd=>by rw [hn];exact h4 d hd,hk'⟩⟩
    ·rename_i hlt
     obtain ⟨h1,ds,rs,h2,h3,h4,h5⟩:=h
     exact ⟨_,h5,fun s' hb' hn hg k' hk'=>by simp only [hf s' hg,hg',eargs s' hg,if_neg hlt];exact ⟨h1,ds,rs,h2,h3,fun d hd=>by rw [hn];exact h4 d hd,hk'⟩⟩
   ·exact h.elim
   ·exact h.elim
  | invoke r nm=>simp [evOp,hop,hcc] at h
  | builtin b =>
   cases b with
   | len =>
    simp only [evOp,hop,hcc] at h ⊢
    split at h
    ·rename_i x t ts ha ht
     split at h
     ·rename_i e xs he hxs
      exact ⟨_,h,fun s' hb' hn hg k' hk'=>by rw [eargs s' hg];simp only [ha,ht,he,hxs];exact hk'⟩
     ·rename_i hno
      split at h
      ·rename_i b hu
       have hno' : telem P t=none:=by unfold telem;rw [hu]
       refine ⟨_,h,fun s' hb' hn hg k' hk'=>?_⟩
       rw [eargs s' hg]
       simp only [ha,ht,hu,hno']
       exact hk'
      ·rename_i nn e z hu
       have hno' : telem P t=none:=by unfold telem;rw [hu]
       refine ⟨_,h.2,fun s' hb' hn hg k' hk'=>?_⟩
       rw [eargs s' hg]
       simp only [ha,ht,hu,hno']
       exact ⟨h.1,hk'⟩
      ·rename_i nm _ _
       split at h
       ·rename_i e c he hvc
        refine ⟨_,h,fun s' hb' hn hg k' hk'=>?_⟩
        rw [eargs s' hg]
        have hu:P.underlying t=some (.slice e):=telem_inv he
        simp only [ha,ht,he,sliceOf,hu,hb'.2 _ _ hvc]
        exact hk'
       ·exact h.elim
      ·exact h.elim
    ·exact h.elim
   | max =>
    simp only [evOp,hop,hcc] at h ⊢
    split at h
    ·rename_i q a q2 b ha
     exact ⟨_,h.2,fun s' hb' hn hg k' hk'=>by rw [eargs s' hg];simp only [ha];exact ⟨h.1,hk'⟩⟩
    ·exact h.elim
   | min =>
    simp only [evOp,hop,hcc] at h ⊢
    split at h
    ·rename_i q a q2 b ha
     exact ⟨_,h.2,fun s' hb' hn hg k' hk'=>by rw [eargs s' hg];simp only [ha];exact ⟨h.1,hk'⟩⟩
    ·exact h.elim
   | _=>simp [calm,hop,hcc] at hc
 | _=>simp [calm,hop] at hc
end Go.Ab
namespace Go.Ab
open Go Go.RowKit
variable {P:Program} {a:Act} {w:World} {n:Nat} {Mo:Cells} {m:Mp} {s:Sa} {p:Name} {k:Sa→Prop} {Q:Exit→Act→World→Prop} {sv:List Act} {ops:Array Oper}
theorem evOp_semsP {kt:TypeId→V→Sa→Prop} {o:Oper} (h:evOp P (semsP P) p o s k):evOp P (semsT P kt) p o s k:=by
 cases hop:o.op with
 | call c =>
  cases hcc:c.callee with
  | value f =>
   simp only [evOp,hop,hcc] at h ⊢
   split at h
   ·obtain ⟨h1,ds,rs,h2,h3,h4⟩:=h
    exact ⟨h1,(TCall_pure (p:=[]) h3 h2 h4).toT⟩
   ·split at h
    ·rename_i hlt
     obtain ⟨h1,ds,rs,h2,h3,h4⟩:=h
     rw [if_pos hlt]
     exact ⟨h1,(TCall_pure (p:=[]) h3 h2 h4).toT⟩
    ·rename_i hlt
     obtain ⟨h1,ds,rs,h2,h3,h4⟩:=h
     rw [if_neg hlt]
     exact ⟨h1,(TCall_pure (p:=[]) h3 h2 h4).toT⟩
   ·exact h.elim
   ·exact h.elim
  | invoke r nm=>simp [evOp,hop,hcc] at h
  | builtin b =>
   cases b with
   | len=>simpa only [evOp,hop,hcc] using h
   | append=>simpa only [evOp,hop,hcc] using h
   | max=>simpa only [evOp,hop,hcc] using h
   | min=>simpa only [evOp,hop,hcc] using h
   | _=>simp [evOp,hop,hcc] at h
 | makeFunc fn fi ca=>cases fn with
  | func f=>simpa only [evOp,hop] using h
  | _=>simp [evOp,hop] at h
 | makeMap t r=>cases r with
  | none=>simpa only [evOp,hop] using h
  | some y=>simp [evOp,hop] at h
 | slice t x lo hi mx=>cases mx with
  | none=>simpa only [evOp,hop] using h
  | some y=>simp [evOp,hop] at h
 | _=>first | (simpa only [evOp,hop] using h) | (simp [evOp,hop] at h;done)
variable {kt:TypeId→V→Sa→Prop}
theorem op1_soundP {i:Nat} {o:Oper} {K:Act→World→Prop} (hT:RegThr Mo m s a.defers sv w kt Q) (hi:ops[i]? = some o) (hR:Rel Mo m s (a::sv) w)
  (hN:∀ m' s' v w',k s' → Rel Mo m' s' (a.put o.dst v::sv) w' → Step m s w m' s' w' → rdOf m' s' = rdOf m s→K (a.put o.dst v) w')
  (h:evOps P (semsT P kt) p ops [o] s k):wpOpIn (Wd (rdOf m s)) n P ops Q i K a w:=by
 simp only [evOps,thrOp_nil] at h
 obtain ⟨hd0,h⟩:=h
 have hd:∀ (n' : Nat),n' = s.n→∀ d,o.dst=some d→d<n':=fun n' e d hd=>by rw [hd] at hd0;rw [e];exact hd0
 unfold wpOpIn
 simp only [hi]
 have run:∀ (s1:Sa),Rel Mo m s1 (a::sv) w→s1.n=s.n→Step m s w m s1 w→rdOf m s1=rdOf m s→evOp P (semsT P kt) p o s1 k →
   o.wpIn (Wd (rdOf m s)) n P a w K Q:=by
  intro s1 hR1 hn1 hs1 hr1 h1
  rw [← hr1]
  exact evOp_sound hR1 (hT.step hs1 hr1) (hd _ hn1) (fun m' s' v w' hk hR' hs' hr'=>hN m' s' v w' hk hR' (hs1.trans hs') (hr'.trans hr1)) h1
 have skip:∀ (s1:Sa),Rel Mo m s1 (a::sv) w→s1.n=s.n→Step m s w m s1 w→rdOf m s1=rdOf m s→k (s1.put o.dst (.tup [])) →
   (∀ f,o.about P w a.eval=some f→(Wd (rdOf m s)).fn f)∧K (a.put o.dst undef) w:=by
  intro s1 hR1 hn1 hs1 hr1 h1
  refine ⟨fun _ _=>trivial,?_⟩
  have hR2:=hR1.put (dst:=o.dst) (hd _ hn1) (rep_undef (w:=w) (M:=Tot Mo s1.bx s1.ow m) (m:=m))
  exact hN m _ undef w h1 hR2 (step_put hs1) (by rw [rdOf_put];exact hr1)
 split at h
 ·rename_i hg
  have hw:Region.wanted o (yielded ops a.tmps)=true:=by simp [Region.wanted,hg]
  rw [if_pos hw]
  exact run s hR rfl (Step.refl _ _ _) rfl h
 ·rename_i j want hg
  split at h
  ·rename_i t hjt
   split at h
   ·rename_i b hb
    have hv:=hR.get t
    rw [hb] at hv
    have hy:=yielded_bool hjt hv.val.1
    have hw:Region.wanted o (yielded ops a.tmps)=(some b==some want):=by simp [Region.wanted,hg,hy]
    have hRl:=hR.literal hb
    have hst:Step m s w m (s.put (some t) (.d (.v (.bool b)))) w:=step_put (Step.refl _ _ _)
    cases b with
    | true =>
     have h:=h.1 rfl
     cases want with
     | true=>rw [if_pos (by rw [hw];rfl)];exact run _ hRl (by rfl) hst (by rfl) h
     | false=>rw [if_neg (by rw [hw];simp)];exact skip _ hRl (by rfl) hst (by rfl) h
    | false =>
     have h:=h.2 rfl
     cases want with
     | true=>rw [if_neg (by rw [hw];simp)];exact skip _ hRl (by rfl) hst (by rfl) h
     | false=>rw [if_pos (by rw [hw];rfl)];exact run _ hRl (by rfl) hst (by rfl) h
   ·rename_i hb
    have hv:=hR.get t
    rw [hb] at hv
    obtain ⟨cs,e,hs,_⟩:=hv.tup_inv
    have hcs:cs = #[]:=by simpa using hs
    subst hcs
    have hy:=yielded_undef hjt e
    rw [if_neg (by simp [Region.wanted,hg,hy])]
    exact skip s hR rfl (Step.refl _ _ _) rfl h
   ·exact h.elim
  ·exact h.elim
structure Like (s s' : Sa):Prop where
 rd:s.rd=s'.rd
 n:s.n=s'.n
 sv:s.sv=s'.sv
 bx:s.bx=s'.bx
 lp:s.lp=s'.lp
 ow:s.ow=s'.ow
 ts:∀ t,lkT t s.ts=lkT t s'.ts
 vc:s.vc=s'.vc
theorem Like.refl (s:Sa):Like s s:=⟨rfl,rfl,rfl,rfl,rfl,rfl,fun _=>rfl,rfl⟩
theorem Like.trans {s s' s'' : Sa} (h:Like s s') (h' : Like s' s''):Like s s'':=⟨h.rd.trans h'.rd,h.n.trans h'.n,h.sv.trans h'.sv,h.bx.trans h'.bx,h.lp.trans h'.lp,h.ow.trans h'.ow,fun t=>(h.ts t).trans (h'.ts t),h.vc.trans h'.vc⟩
theorem Like.symm {s s' : Sa} (h:Like s s'):Like s' s:=⟨h.rd.symm,h.n.symm,h.sv.symm,h.bx.symm,h.lp.symm,h.ow.symm,fun t=>(h.ts t).symm,h.vc.symm⟩
theorem lkT_setT' (t u:Nat) (v:V) (l:List (Nat×V)):lkT t (setT u v l)=if u=t then v else lkT t l:=by
 induction l with
 | nil=>simp [setT,lkT]
 | cons x l ih =>
  obtain ⟨y,z⟩:=x
  simp only [setT]
  split
  ·rename_i e;subst e;simp only [lkT];split <;> rfl
  ·rename_i e
   simp only [lkT,ih]
   split
   ·rename_i e2;subst e2;rw [if_neg (by intro e3;exact e e3.symm)]
   ·rfl
theorem Like.put {s s' : Sa} (h:Like s s') (d:Option Tmp) (v:V):Like (s.put d v) (s'.put d v):=by
 cases d with
 | none=>exact h
 | some d=>exact ⟨h.rd,h.n,h.sv,h.bx,h.lp,h.ow,fun t=>by simp only [Sa.put,lkT_setT',h.ts t],h.vc⟩
theorem Like.literal {t:Nat} {v:V} (h:lkT t s.ts=v):Like (s.put (some t) v) s:=⟨rfl,rfl,rfl,rfl,rfl,rfl,fun u=>by
 simp only [Sa.put,lkT_setT'];split
 ·rename_i e;subst e;exact h.symm
 ·rfl,rfl⟩
end Go.Ab
namespace Go.Ab
open Go Go.RowKit
variable {P:Program} {a:Act} {w:World} {n:Nat} {Mo:Cells} {m:Mp} {s:Sa} {p:Name} {k:Sa→Prop} {Q:Exit→Act→World→Prop} {sv:List Act} {ops:Array Oper}
def aft (o:Oper):List Nat:=(o.after.toList.filter (fun e=>Region.binds .any e)).map (fun e=>e.on)
def tmpOf:Operand→Option Nat | .tmp t=>some t | _=>none
def opReads (ops:Array Oper) (o:Oper):List Nat:=o.op.operands.toList.filterMap tmpOf++(match o.guard with | some (j,_)=>((ops[j]?).bind (·.dst)).toList | none=>[])
def dstOf (ops:Array Oper) (i:Nat):Option Nat:=(ops[i]?).bind (·.dst)
theorem dstOf_eq {i:Nat} {o:Oper} (h:ops[i]? = some o):dstOf ops i=o.dst:=by simp [dstOf,h]
theorem BxExt.like {s s1 s' : Sa} (h:BxExt s s') (hl:Like s1 s):BxExt s1 s':=⟨fun nm c hc=>h.1 nm c (by rw [← hl.bx];exact hc),fun nm c hc=>h.2 nm c (by rw [← hl.vc];exact hc)⟩
theorem BxExt.liker {s s1 s' : Sa} (h:BxExt s s') (hl:Like s1 s'):BxExt s s1:=⟨fun nm c hc=>by rw [hl.bx];exact h.1 nm c hc,fun nm c hc=>by rw [hl.vc];exact h.2 nm c hc⟩
def OpFact (P:Program) (p:Name) (ops:Array Oper) (i:Nat) (v:V) (s:Sa):Prop :=
 ∃ o,ops[i]? = some o∧∀ s' : Sa,BxExt s s' → s'.n=s.n→(∀ t∈opReads ops o,lkT t s'.ts=lkT t s.ts) →
  ∀ k' : Sa→Prop,(∀ s1,Like s1 s' → k' (s1.put o.dst v))→evOps P (sems P) p ops [o] s' k'
theorem OpFact.like {i:Nat} {v:V} {s s1:Sa} (h:OpFact P p ops i v s) (hl:Like s1 s):OpFact P p ops i v s1:=by
 obtain ⟨o,ho,h⟩:=h
 exact ⟨o,ho,fun s' hb hn ht k' hk=>h s' (hb.like hl.symm) (hn.trans hl.n) (fun t htm=>(ht t htm).trans (hl.ts t)) k' hk⟩
theorem reads_get {o:Oper} {s s' : Sa} (h:∀ t∈opReads ops o,lkT t s'.ts=lkT t s.ts):∀ x∈o.op.operands,s'.get x=s.get x:=by
 intro x hx
 cases x with
 | tmp t=>exact h t (List.mem_append_left _ (List.mem_filterMap.2 ⟨.tmp t,by simpa using hx,rfl⟩))
 | const v=>rfl
 | global g=>rfl
 | func g=>rfl
theorem evSeg_op {i:Nat} {o:Oper} (hi:ops[i]? = some o) (hc:calm o.op=true) (hn:nilOK s o.op=true) (h:evOps P (semsP P) p ops [o] s k) :
  ∃ v s1,Like s1 s∧k (s1.put o.dst v)∧OpFact P p ops i v s:=by
 simp only [evOps,thrOp_nil] at h
 obtain ⟨hd,h⟩:=h
 have run:∀ s1:Sa,Like s1 s→nilOK s1 o.op=true→evOp P (semsP P) p o s1 k→∃ v,k (s1.put o.dst v)∧∀ s2:Sa,BxExt s s2→s2.n=s.n→(∀ t∈opReads ops o,lkT t s2.ts=lkT t s.ts)→∀ k' : Sa→Prop,k' (s2.put o.dst v)→evOp P (sems P) p o s2 k':=by
  intro s1 hl hn1 h1
  obtain ⟨v,hv,hh⟩:=calm_congr hc hn1 h1
  refine ⟨v,hv,fun s2 hb hnn ht k' hk'=>evOp_semsP (hh s2 (hb.like hl) (hnn.trans hl.n.symm) (fun x hx=>?_) k' hk')⟩
  exact reads_get (ops:=ops) (fun t htm=>(ht t htm).trans (hl.ts t).symm) x hx
 have nil1:∀ s1:Sa,Like s1 s→nilOK s1 o.op=true:=by
  intro s1 hl
  have:∀ x,s1.get x=s.get x:=fun x=>by cases x <;> first | exact hl.ts _ | rfl
  cases hop:o.op <;> simp only [nilOK,hop] at hn ⊢ <;> (rw [this];exact hn)
 split at h
 ·rename_i hg
  obtain ⟨v,hv,hh⟩:=run s (Like.refl s) hn h
  refine ⟨v,s,Like.refl s,hv,o,hi,fun s' hb hnn ht k' hk'=>?_⟩
  simp only [evOps,thrOp_nil,hg]
  exact ⟨by rw [hnn];exact hd,hh s' hb hnn ht k' (hk' s' (Like.refl s'))⟩
 ·rename_i j want hg
  split at h
  ·rename_i t hjt
   have htr:t∈opReads ops o:=List.mem_append_right _ (by rw [hg];simp only [hjt];simp)
   split at h
   ·rename_i b hb
    cases b with
    | true =>
     have h:=h.1 rfl
     have hl:=Like.literal hb
     cases want with
     | true =>
      obtain ⟨v,hv,hh⟩:=run _ hl (nil1 _ hl) (by simpa using h)
      refine ⟨v,_,hl,hv,o,hi,fun s' hb' hnn ht k' hk'=>?_⟩
      have hb2:=(ht t htr).trans hb
      simp only [evOps,thrOp_nil,hg,hjt,hb2]
      refine ⟨by rw [hnn];exact hd,⟨fun _=>?_,fun e=>(by cases e)⟩⟩
      have hl2:=Like.literal hb2
      simp only [if_true]
      exact hh _ (hb'.liker hl2) (hl2.n.trans hnn) (fun t' ht'=>(hl2.ts t').trans (ht t' ht')) k' (hk' _ hl2)
     | false =>
      refine ⟨.tup [],_,hl,by simpa using h,o,hi,fun s' hb' hnn ht k' hk'=>?_⟩
      have hb2:=(ht t htr).trans hb
      simp only [evOps,thrOp_nil,hg,hjt,hb2]
      refine ⟨by rw [hnn];exact hd,⟨fun _=>?_,fun e=>(by cases e)⟩⟩
      simpa using hk' _ (Like.literal hb2)
    | false =>
     have h:=h.2 rfl
     have hl:=Like.literal hb
     cases want with
     | false =>
      obtain ⟨v,hv,hh⟩:=run _ hl (nil1 _ hl) (by simpa using h)
      refine ⟨v,_,hl,hv,o,hi,fun s' hb' hnn ht k' hk'=>?_⟩
      have hb2:=(ht t htr).trans hb
      simp only [evOps,thrOp_nil,hg,hjt,hb2]
      refine ⟨by rw [hnn];exact hd,⟨fun e=>(by cases e),fun _=>?_⟩⟩
      have hl2:=Like.literal hb2
      simp only [Bool.false_eq_true,if_false]
      exact hh _ (hb'.liker hl2) (hl2.n.trans hnn) (fun t' ht'=>(hl2.ts t').trans (ht t' ht')) k' (hk' _ hl2)
     | true =>
      refine ⟨.tup [],_,hl,by simpa using h,o,hi,fun s' hb' hnn ht k' hk'=>?_⟩
      have hb2:=(ht t htr).trans hb
      simp only [evOps,thrOp_nil,hg,hjt,hb2]
      refine ⟨by rw [hnn];exact hd,⟨fun e=>(by cases e),fun _=>?_⟩⟩
      simpa using hk' _ (Like.literal hb2)
   ·rename_i hb
    refine ⟨.tup [],s,Like.refl s,h,o,hi,fun s' hb' hnn ht k' hk'=>?_⟩
    have hb2:=(ht t htr).trans hb
    simp only [evOps,thrOp_nil,hg,hjt,hb2]
    exact ⟨by rw [hnn];exact hd,hk' _ (Like.refl s')⟩
   ·exact h.elim
  ·exact h.elim
def putAll (ops:Array Oper) (s:Sa) (l:List (Nat×V)):Sa:=l.foldl (fun s x=>s.put (dstOf ops x.1) x.2) s
theorem Like.putAll {s s' : Sa} (h:Like s s') (l:List (Nat×V)):Like (putAll ops s l) (putAll ops s' l):=by
 induction l generalizing s s' with
 | nil=>exact h
 | cons x l ih=>exact ih (h.put _ _)
theorem putAll_append (l l' : List (Nat×V)):putAll ops s (l++l')=putAll ops (putAll ops s l) l':=by simp [putAll]
theorem putAll_fields (l:List (Nat×V)):(putAll ops s l).rd=s.rd∧(putAll ops s l).n=s.n∧(putAll ops s l).sv=s.sv∧(putAll ops s l).bx=s.bx∧(putAll ops s l).lp=s.lp∧(putAll ops s l).ow=s.ow:=by
 induction l generalizing s with
 | nil=>exact ⟨rfl,rfl,rfl,rfl,rfl,rfl⟩
 | cons x l ih =>
  have:=ih (s:=s.put (dstOf ops x.1) x.2)
  have e:∀ d v,(s.put d v).rd=s.rd∧(s.put d v).n=s.n∧(s.put d v).sv=s.sv∧(s.put d v).bx=s.bx∧(s.put d v).lp=s.lp∧(s.put d v).ow=s.ow:=fun d v=>by cases d <;> exact ⟨rfl,rfl,rfl,rfl,rfl,rfl⟩
  obtain ⟨e1,e2,e3,e4,e5,e6⟩:=e (dstOf ops x.1) x.2
  exact ⟨this.1.trans e1,this.2.1.trans e2,this.2.2.1.trans e3,this.2.2.2.1.trans e4,this.2.2.2.2.1.trans e5,this.2.2.2.2.2.trans e6⟩
theorem putAll_vc:∀ (l:List (Nat×V)) {s:Sa},(putAll ops s l).vc=s.vc
 | [],s=>rfl
 | x::l,s=>by
  have e:(s.put (dstOf ops x.1) x.2).vc=s.vc:=by cases dstOf ops x.1 <;> rfl
  exact (putAll_vc l (s:=s.put (dstOf ops x.1) x.2)).trans e
theorem lk_not {t:Nat} {l:List (Nat×V)} (h:∀ x∈l,dstOf ops x.1≠some t):lkT t (putAll ops s l).ts=lkT t s.ts:=by
 induction l generalizing s with
 | nil=>rfl
 | cons x l ih =>
  have e:putAll ops s (x::l)=putAll ops (s.put (dstOf ops x.1) x.2) l:=rfl
  rw [e,ih (fun y hy=>h y (List.mem_cons_of_mem _ hy))]
  have hx:=h x List.mem_cons_self
  cases hd:dstOf ops x.1 with
  | none=>rfl
  | some d=>rw [hd] at hx;simp only [Sa.put,lkT_setT'];rw [if_neg (fun e=>hx (by rw [e]))]
def Apart (ops:Array Oper) (l:List (Nat×V)):Prop:=∀ x∈l,∀ y∈l,∀ t,dstOf ops x.1=some t→dstOf ops y.1=some t→x=y
theorem lk_mem {t:Nat} {l:List (Nat×V)} (ha:Apart ops l) {x:Nat×V} (hx:x∈l) (hd:dstOf ops x.1=some t):lkT t (putAll ops s l).ts=x.2:=by
 induction l generalizing s with
 | nil=>cases hx
 | cons y l ih =>
  have e:putAll ops s (y::l)=putAll ops (s.put (dstOf ops y.1) y.2) l:=rfl
  rw [e]
  by_cases hxl:x∈l
  ·exact ih (fun a ha' b hb=>ha a (List.mem_cons_of_mem _ ha') b (List.mem_cons_of_mem _ hb)) hxl
  ·have hxy:x=y:=by
    rcases List.mem_cons.1 hx with h | h
    ·exact h
    ·exact absurd h hxl
   subst hxy
   rw [lk_not (fun z hz e=>hxl (by rw [ha x List.mem_cons_self z (List.mem_cons_of_mem _ hz) t hd e];exact hz)),hd]
   simp [Sa.put,lkT_setT']
end Go.Ab
namespace Go.Ab
open Go Go.RowKit
variable {P:Program} {a:Act} {w:World} {n:Nat} {Mo:Cells} {m:Mp} {s:Sa} {p:Name} {k:Sa→Prop} {Q:Exit→Act→World→Prop} {sv:List Act} {ops:Array Oper}
def aftOf (ops:Array Oper) (i:Nat):List Nat:=match ops[i]? with | some o=>aft o | none=>[]
def readsOf (ops:Array Oper) (i:Nat):List Nat:=match ops[i]? with | some o=>opReads ops o | none=>[]
def lkD (d:Option Tmp) (s:Sa):V:=match d with | some t=>lkT t s.ts | none=>.dead
def need (ops:Array Oper):List Nat→List Nat→List Nat
 | [],S=>S
 | j::rest,S=>need ops rest (if S.contains j then aftOf ops j++S else S)
theorem need_all {q:Nat→Prop}:∀ {l S:List Nat},(∀ j∈S,q j)→(∀ j∈l,q j→∀ x∈aftOf ops j,q x)→∀ j∈need ops l S,q j:=by
 intro l
 induction l with
 | nil=>intro S h _ j hj;exact h j hj
 | cons i l ih =>
  intro S h hc j hj
  simp only [need] at hj
  refine ih ?_ (fun a ha=>hc a (List.mem_cons_of_mem _ ha)) j hj
  intro x hx
  split at hx
  ·rename_i hi
   rcases List.mem_append.1 hx with hx | hx
   ·exact hc i List.mem_cons_self (h i (by simpa using hi)) x hx
   ·exact h x hx
  ·exact h x hx
theorem need_self:∀ {l S:List Nat} {x:Nat},x∈S→x∈need ops l S:=by
 intro l
 induction l with
 | nil=>intro S x h;exact h
 | cons i l ih =>
  intro S x h
  simp only [need]
  refine ih ?_
  split
  ·exact List.mem_append_right _ h
  ·exact h
def Listed (ops:Array Oper) (listed:Array Bool) (D:Nat→Prop):Prop:=listed.size=ops.size∧∀ j<ops.size,(listed.getD j true=true↔D j)
theorem Listed.set {listed:Array Bool} {D:Nat→Prop} (h:Listed ops listed D) (i:Nat):Listed ops (listed.setIfInBounds i true) (fun j=>D j∨j=i):=by
 refine ⟨by simp [h.1],fun j hj=>?_⟩
 by_cases hij:i=j
 ·subst hij
  have:i<listed.size:=by rw [h.1];exact hj
  simp [this]
 ·rw [getD_set_ne true hij,h.2 j hj]
  constructor
  ·exact fun x=>.inl x
  ·rintro (x | x)
   ·exact x
   ·exact absurd x.symm hij
theorem Listed.false' {listed:Array Bool} {D:Nat→Prop} (h:Listed ops listed D) {j:Nat} (hj:j<ops.size):listed.getD j false=true↔D j:=by
 rw [← h.2 j hj]
 have:j<listed.size:=by rw [h.1];exact hj
 simp [this]
theorem Listed.congr {listed:Array Bool} {D D' : Nat→Prop} (h:Listed ops listed D) (e:∀ j,D j↔D' j):Listed ops listed D':=⟨h.1,fun j hj=>(h.2 j hj).trans (e j)⟩
theorem ready_inv {listed:Array Bool} {D:Nat→Prop} (h:Listed ops listed D) {i:Nat} (hi:i∈Region.ready .any ops listed) :
  i<ops.size∧¬ D i∧∃ o,ops[i]? = some o∧∀ j∈aft o,listed.getD j false=true:=by
 obtain ⟨h1,o,ho,h2⟩:=mem_ready.1 hi
 have hlt:i<ops.size:=(Array.getElem?_eq_some_iff.1 ho).1
 refine ⟨hlt,fun hd=>?_,o,ho,fun j hj=>?_⟩
 ·rw [(h.2 i hlt).2 hd] at h1;cases h1
 ·simp only [aft,List.mem_map,List.mem_filter] at hj
  obtain ⟨e,⟨he,hb⟩,rfl⟩:=hj
  exact h2 e (by simpa using he) hb
theorem ready_intro {listed:Array Bool} {D:Nat→Prop} (h:Listed ops listed D) {i:Nat} {o:Oper} (ho:ops[i]? = some o) (hd : ¬ D i) (ha:∀ j∈aft o,j<ops.size∧D j) :
  i∈Region.ready .any ops listed:=by
 have hlt:i<ops.size:=(Array.getElem?_eq_some_iff.1 ho).1
 refine mem_ready.2 ⟨?_,o,ho,fun e he hb=>?_⟩
 ·cases hx:listed.getD i true
  ·rfl
  ·exact absurd ((h.2 i hlt).1 hx) hd
 ·obtain ⟨h1,h2⟩:=ha e.on (by simp only [aft,List.mem_map,List.mem_filter];exact ⟨e,⟨by simpa using he,hb⟩,rfl⟩)
  exact (h.false' h1).2 h2
theorem first_in {α:Type} (l:List α) (q:α→Prop) (h:∃ x∈l,q x):∃ pre x post,l=pre++x::post∧q x∧∀ y∈pre,¬ q y:=by
 induction l with
 | nil=>obtain ⟨x,hx,_⟩:=h;cases hx
 | cons a l ih =>
  by_cases ha:q a
  ·exact ⟨[],a,l,rfl,ha,by simp⟩
  ·obtain ⟨x,hx,hq⟩:=h
   rcases List.mem_cons.1 hx with e | e
   ·subst e;exact absurd hq ha
   ·obtain ⟨pre,x,post,e1,e2,e3⟩:=ih ⟨x,e,hq⟩
    refine ⟨a::pre,x,post,by rw [e1];rfl,e2,fun y hy=>?_⟩
    rcases List.mem_cons.1 hy with h | h
    ·subst h;exact ha
    ·exact e3 y h
theorem OpFact.ext {i:Nat} {v:V} {st s' : Sa} (h:OpFact P p ops i v st) (hb:BxExt st s') (hn:s'.n=st.n) (hr:∀ u∈readsOf ops i,lkT u s'.ts=lkT u st.ts):OpFact P p ops i v s':=by
 obtain ⟨o,ho,h⟩:=h
 have hr' : ∀ u∈opReads ops o,lkT u s'.ts=lkT u st.ts:=fun u hu=>hr u (by simp only [readsOf,ho];exact hu)
 exact ⟨o,ho,fun s2 hb2 hn2 ht k' hk=>h s2 ⟨fun nm c hc=>hb2.1 nm c (hb.1 nm c hc),fun nm c hc=>hb2.2 nm c (hb.2 nm c hc)⟩ (hn2.trans hn) (fun t htm=>(ht t htm).trans (hr' t htm)) k' hk⟩
theorem Step.stab {m' : Mp} {s' : Sa} {w' : World} {as:List Act} (h:Step m s w m' s' w') (hR:Rel Mo m s as w):Stab w (Tot Mo s.bx s.ow m) w' (Tot Mo s'.bx s'.ow m'):=by
 intro b o c hc hm
 have hlt:=World.block_lt_of_cell? w _ hc
 simp only at hlt
 obtain ⟨d,T,f,hb,_⟩:=block_of_cell hc
 have hL : ¬ LpB s.lp m b:=by
  rintro ⟨l,q,hl,rfl⟩
  obtain ⟨r,x,hx⟩:=hR.lps l q hl
  rw [hx.heap] at hb;cases hb
 obtain ⟨d',h1,h2,h3⟩:=h.keeps.cel b d T f hb hL
 refine ⟨?_,?_⟩
 ·rw [cell_of_block hb] at hc
  rw [cell_of_block h1,h3 o (fun hx=>hm (.inr hx))];exact hc
 ·rintro (hx | hx)
  ·exact hm (.inl hx)
  ·exact hm (.inr (h.mt b o hlt hx))
theorem Rel.tell (h:Rel Mo m s (a::sv) w) {d:Tmp} {v:V} (hv:RepV w (Tot Mo s.bx s.ow m) m v (a.tmps.getD d undef)):Rel Mo m (s.put (some d) v) (a::sv) w:=by
 refine ⟨h.len,?_,h.box,h.inj,h.oww,h.owx,h.owb,h.lps,h.dep,h.lpi,h.mo,h.mks,h.owm,h.vec⟩
 intro i hi hi'
 cases i with
 | zero =>
  have h0:=h.cur
  refine ⟨h0.size,fun t=>?_,h0.def_⟩
  simp only [Sa.put,List.getElem_cons_zero,lkT_setT']
  split
  ·rename_i e;subst e;exact hv
  ·exact h0.ts t
 | succ i=>exact h.fr (i+1) hi hi'
def KeepN (ds:List Tmp) (s sj:Sa) (nm:Name):Prop:=∃ t,t ∉ ds∧((∃ o o',lkT t s.ts = .ptr nm o∧lkT t sj.ts = .ptr nm o')∨(lkT t s.ts = .mref nm∧lkT t sj.ts = .mref nm))
def KeepM (ds:List Tmp) (s sj:Sa) (nm:Name):Prop:=∃ t,t ∉ ds∧lkT t s.ts = .vsl nm∧lkT t sj.ts = .vsl nm
structure KeepV (ds:List Tmp) (s sj:Sa) (v:V):Prop where
 b:∀ nm∈v.bxs,KeepN ds s sj nm
 o:v.ows=[]
 l:v.lps=[]
 v:∀ nm∈v.vns,KeepM ds s sj nm
theorem KeepV.rep {ds:List Tmp} {sj:Sa} {m' : Mp} {w' : World} {M M' : Cells} {v:V} {c:Value} {a' : Act} (h:KeepV ds s sj v) (hst:Stab w M w' M') (hv:RepV w M m v c)
  (h1:∀ t,RepV w M m (lkT t s.ts) (a.tmps.getD t undef)) (h2:∀ t,RepV w' M' m' (lkT t sj.ts) (a'.tmps.getD t undef)) (hsame:∀ t,t ∉ ds→a'.tmps.getD t undef=a.tmps.getD t undef):RepV w' M' m' v c:=by
 refine hv.mono hst (fun nm hn=>?_) (fun i hi=>by rw [h.o] at hi;cases hi) (fun l hl=>by rw [h.l] at hl;cases hl) (fun nm hn=>?_)
 ·obtain ⟨t,ht,⟨o,o',e1,e2⟩ | ⟨e1,e2⟩⟩:=h.b nm hn
  ·have k1:=h1 t
   have k2:=h2 t
   rw [e1] at k1
   rw [e2,hsame t ht] at k2
   have k3:=k1.ptr_inv.symm.trans k2.ptr_inv
   simp only [Value.pointer.injEq,Option.some.injEq,Addr.mk.injEq] at k3
   exact k3.1.symm
  ·have k1:=h1 t
   have k2:=h2 t
   rw [e1] at k1
   rw [e2,hsame t ht] at k2
   have k3:=k1.mref_inv.symm.trans k2.mref_inv
   simp only [Value.map.injEq,Option.some.injEq] at k3
   exact k3.symm
 ·obtain ⟨t,ht,e1,e2⟩:=h.v nm hn
  have k1:=h1 t
  have k2:=h2 t
  rw [e1] at k1
  rw [e2,hsame t ht] at k2
  have k3:=k1.vsl_inv.symm.trans k2.vsl_inv
  simp only [Value.slice.injEq] at k3
  exact (Prod.ext k3.1 (Prod.ext k3.2.1 k3.2.2)).symm
end Go.Ab
namespace Go.Ab
open Go Go.RowKit
variable {P:Program} {a:Act} {w:World} {n:Nat} {Mo:Cells} {m:Mp} {s:Sa} {p:Name} {k:Sa→Prop} {Q:Exit→Act→World→Prop} {sv:List Act} {ops:Array Oper} {kt:TypeId→V→Sa→Prop}
def MoB (Mo:Cells) (B:List Nat):Cells:=fun b o=>Mo b o∨b∈B
theorem Rel.ts' (h:Rel Mo m s (a::sv) w) {s' : Sa} (hrd:s'.rd=s.rd) (hn:s'.n=s.n) (hsv:s'.sv=s.sv) (hbx:s'.bx=s.bx) (hlp:s'.lp=s.lp) (how:s'.ow=s.ow) (hvc:s'.vc=s.vc)
  (ht:∀ t,RepV w (Tot Mo s.bx s.ow m) m (lkT t s'.ts) (a.tmps.getD t undef)):Rel Mo m s' (a::sv) w:=by
 cases s;cases s'
 simp only at hrd hn hsv hbx hlp how hvc ht
 subst hrd hn hsv hbx hlp how hvc
 refine ⟨h.len,?_,h.box,h.inj,h.oww,h.owx,h.owb,h.lps,h.dep,h.lpi,h.mo,h.mks,h.owm,h.vec⟩
 intro i hi hi'
 cases i with
 | zero =>
  have h0:=h.fr 0 (by simp) (by simp)
  exact ⟨h0.size,ht,h0.def_⟩
 | succ i=>exact h.fr (i+1) hi hi'
theorem Rel.lessMo {Mo' : Cells} {as:List Act} (h:Rel Mo' m s as w) (hle:∀ b o,Mo b o→Mo' b o):Rel Mo m s as w:=by
 have hst:Stab w (Tot Mo' s.bx s.ow m) w (Tot Mo s.bx s.ow m):=fun b o c hc hm=>⟨hc,fun ht=>hm (ht.imp (hle b o) id)⟩
 refine ⟨h.len,fun i hi hi'=>(h.fr i hi hi').stab hst,fun nm c hc=>?_,h.inj,h.oww,h.owx,h.owb,h.lps,h.dep,h.lpi,fun b o hb=>h.mo b o (hle b o hb),h.mks,fun i hi hn o ho=>h.owm i hi hn o (hle _ _ ho),fun nm c hc=>⟨(h.vec nm c hc).1,(h.vec nm c hc).2.mono hst rfl rfl (fun _ _ _ _ _ hv=>hv) (fun b c T hc=>⟨c,hc,rfl⟩)⟩⟩
 obtain ⟨cs,T,hb⟩:=h.box nm c hc
 exact ⟨cs,T,hb.heap,hb.size,hb.leafs,fun i hi=>hst.mono_rep (hb.rep i hi)⟩
theorem tot_hide {bx:List (Name×V)} {ow:List Name} {nm:Name} {c:V} (hn:lookN nm bx=none):Tot Mo ((nm,c)::bx) ow m=Tot (fun b o=>Mo b o∨b=m.bx nm) bx ow m:=by
 funext b o
 refine propext ⟨?_,?_⟩
 ·rintro (h | ⟨n',d,hl,e⟩ | h)
  ·exact .inl (.inl h)
  ·simp only [lookN] at hl
   split at hl
   ·rename_i e2;subst e2;exact .inl (.inr e)
   ·exact .inr (.inl ⟨n',d,hl,e⟩)
  ·exact .inr (.inr h)
 ·rintro ((h | h) | ⟨n',d,hl,e⟩ | h)
  ·exact .inl h
  ·exact .inr (.inl ⟨nm,c,by simp [lookN],h⟩)
  ·refine .inr (.inl ⟨n',d,?_,e⟩)
   simp only [lookN]
   split
   ·rename_i e2;subst e2;rw [hn] at hl;cases hl
   ·exact hl
  ·exact .inr (.inr h)
theorem Rel.hideBox {as:List Act} {nm:Name} {c:V} (h:Rel Mo m { s with bx:=(nm,c)::s.bx } as w) (hn:lookN nm s.bx=none):Rel (fun b o=>Mo b o∨b=m.bx nm) m s as w:=by
 have e:Tot Mo ((nm,c)::s.bx) s.ow m=_:=tot_hide hn
 have hl:∀ n' d,lookN n' s.bx=some d→lookN n' ((nm,c)::s.bx)=some d:=fun n' d hd=>by
  simp only [lookN]
  split
  ·rename_i e2;subst e2;rw [hn] at hd;cases hd
  ·exact hd
 have hnm:lookN nm ((nm,c)::s.bx)=some c:=by simp [lookN]
 have hfr:=h.fr
 have hbox:=h.box
 have hvec:=h.vec
 simp only [e] at hfr hbox hvec
 refine ⟨h.len,hfr,fun n' d hd=>hbox n' d (hl n' d hd),fun n1 c1 n2 c2 h1 h2 e=>h.inj n1 c1 n2 c2 (hl _ _ h1) (hl _ _ h2) e,h.oww,h.owx,fun i hi hne n' d hd=>h.owb i hi hne n' d (hl _ _ hd),h.lps,h.dep,h.lpi,?_,h.mks,?_,hvec⟩
 ·rintro b o (hb | rfl)
  ·exact h.mo b o hb
  ·obtain ⟨cs,T,hb⟩:=h.box nm c hnm
   exact hb.heap.lt
 ·rintro i hi hne o (hb | hb)
  ·exact h.owm i hi hne o hb
  ·exact h.owb i hi hne nm c hnm hb
theorem Rel.showBox {as:List Act} {nm:Name} {z:V} {blk:Nat} {cs:Array Value} {T:TypeId} (h:Rel (fun b o=>Mo b o∨b=blk) m s as w) (hr:s.refs nm=false) (hn:lookN nm s.bx=none)
  (hh:w.heap[blk]? = some (.cells cs T (0,0))) (hz:isCells z=true) (hzb:z.bxs=[]) (hsz:cs.size=z.cells.length) (hlf:∀ i,i<z.cells.length→leaf (cs.getD i undef)=true)
  (hrep:∀ i (hi:i<z.cells.length),RepV w (Tot (fun b o=>Mo b o∨b=blk) s.bx s.ow m) m z.cells[i] (cs.getD i undef)) (hmut:∀ o,¬ Mut s.bx s.ow m blk o) :
  Rel Mo { m with bx:=fun n=>if n=nm then blk else m.bx n } { s with bx:=(nm,z)::s.bx } as w:=by
 obtain ⟨m',hm'⟩:∃ m' : Mp,m' = { m with bx:=fun n=>if n=nm then blk else m.bx n }:=⟨_,rfl⟩
 rw [← hm']
 have hne:∀ n d,lookN n s.bx=some d→n≠nm:=fun n d hd e=>by subst e;rw [hn] at hd;cases hd
 have hbx:∀ n,n≠nm→m'.bx n=m.bx n:=fun n hx=>by rw [hm'];exact if_neg hx
 have hbn:m'.bx nm=blk:=by rw [hm'];exact if_pos rfl
 have ho:m'.ow=m.ow:=by rw [hm']
 have hlp:m'.lp=m.lp:=by rw [hm']
 have hvl:m'.vl=m.vl:=by rw [hm']
 have hT:Tot Mo ((nm,z)::s.bx) s.ow m' = Tot (fun b o=>Mo b o∨b=blk) s.bx s.ow m:=by
  rw [tot_hide hn,hbn]
  funext b o
  refine propext (or_congr Iff.rfl (or_congr ?_ (by rw [ho])))
  constructor <;> (rintro ⟨n',d,hl,e⟩;exact ⟨n',d,hl,by rw [e,hbx n' (hne n' d hl)]⟩)
 have hall:=Sa.refs_all hr
 have mono:∀ {v:V} {c:Value},nm ∉ v.bxs→RepV w (Tot (fun b o=>Mo b o∨b=blk) s.bx s.ow m) m v c→RepV w (Tot Mo ((nm,z)::s.bx) s.ow m') m' v c:=fun {v c} hv hx =>
  hx.mono (by rw [hT];exact Stab.refl _ _) (fun n' hn'=>hbx n' (fun e=>hv (e ▸ hn'))) (fun i _ sz x hs=>spare_shape hs (by rw [ho]) (fun b c T hc=>⟨c,hc,rfl⟩)) (fun l _=>by rw [hlp]) (fun l _=>by rw [hvl])
 have hl2:∀ n' d,lookN n' ((nm,z)::s.bx)=some d→(n' = nm∧d=z)∨(n' ≠ nm∧lookN n' s.bx=some d):=fun n' d hd=>by
  simp only [lookN] at hd
  split at hd
  ·rename_i e;cases hd;exact .inl ⟨e.symm,rfl⟩
  ·rename_i e;exact .inr ⟨fun e2=>e e2.symm,hd⟩
 refine ⟨h.len,fun i hi hi'=>?_,fun n' d hd=>?_,fun n1 c1 n2 c2 h1 h2 e=>?_,?_,?_,?_,?_,h.dep,?_,fun b o hb=>h.mo b o (.inl hb),h.mks,?_,fun n' c hc=>?_⟩
 ·have hx:=h.fr i hi hi'
  refine ⟨hx.size,fun t=>mono ?_ (hx.ts t),hx.def_⟩
  cases i with
  | zero=>exact hall.ts t
  | succ i=>exact hall.sv _ (List.getElem_mem _) t
 ·rcases hl2 n' d hd with ⟨rfl,rfl⟩ | ⟨hx,hd⟩
  ·refine ⟨cs,T,.mk (by rw [hbn];exact hh) (by cases d <;> first | rfl | (simp [isCells] at hz)),hsz,hlf,fun i hi=>mono (fun hc=>?_) (hrep i hi)⟩
   have:=bxs_cells d i hi n' hc
   rw [hzb] at this;cases this
  ·obtain ⟨cs',T',hb⟩:=h.box n' d hd
   exact ⟨cs',T',hb.heap.mono (fun o hh _ _=>by rw [hbx n' hx];exact hh),hb.size,hb.leafs,fun i hi=>mono (fun hc=>hall.bx _ _ hd (bxs_cells d i hi nm hc)) (hb.rep i hi)⟩
 ·rcases hl2 n1 c1 h1 with ⟨e1,_⟩ | ⟨e1,g1⟩ <;> rcases hl2 n2 c2 h2 with ⟨e2,_⟩ | ⟨e2,g2⟩
  ·rw [e1,e2]
  ·rw [e1,hbn,hbx n2 e2] at e
   exact absurd (.inl ⟨n2,c2,g2,e⟩) (hmut 0)
  ·rw [e2,hbn,hbx n1 e1] at e
   exact absurd (.inl ⟨n1,c1,g1,e.symm⟩) (hmut 0)
  ·rw [hbx n1 e1,hbx n2 e2] at e
   exact h.inj n1 c1 n2 c2 g1 g2 e
 ·rw [ho];exact h.oww
 ·rw [ho];exact h.owx
 ·rw [ho]
  intro i hi hx n' d hd
  rcases hl2 n' d hd with ⟨rfl,_⟩ | ⟨e1,g1⟩
  ·rw [hbn]
   intro e
   exact hmut (m.ow i).2.1 (.inr ⟨i,hi,e,Nat.le_refl _,hx⟩)
  ·rw [hbx n' e1];exact h.owb i hi hx n' d g1
 ·intro l q hl
  obtain ⟨r,b,hx⟩:=h.lps l q hl
  exact ⟨r,b,⟨by rw [hlp];exact hx.heap,hx.ps,hx.assign,hx.body,hx.own,hx.tmps,hx.stat⟩⟩
 ·rw [hlp];exact h.lpi
 ·rw [ho];exact fun i hi hx o hb=>h.owm i hi hx o (.inl hb)
 ·obtain ⟨g1,g2⟩:=h.vec n' c hc
  exact ⟨g1,g2.mono (by rw [hT];exact Stab.refl _ _) (by rw [hvl]) (by rw [ho]) (fun _ _ _ _ _ hv=>hv) (fun b c T hc=>⟨c,hc,rfl⟩)⟩
end Go.Ab
namespace Go.Ab
open Go Go.RowKit
variable {P:Program} {a:Act} {w:World} {n:Nat} {Mo:Cells} {m:Mp} {s:Sa} {p:Name} {k:Sa→Prop} {Q:Exit→Act→World→Prop} {sv:List Act} {ops:Array Oper} {kt:TypeId→V→Sa→Prop}
def lookB (ops:Array Oper) (fl0:List Nat) (q:Nat):Bool:=match ops[q]? with
 | some o=>calm o.op&&o.dst.isSome&&(List.range ops.size).all fun r=>(dstOf ops r).all fun d=>if r=q then !(opReads ops o).contains d else o.dst != some d&&(!(opReads ops o).contains d || (!fl0.contains r || (aft o).contains r))
 | none=>false
def allocB (ops:Array Oper) (x:Nat):Bool:=match ops[x]? with
 | some o=>(match o.op with | .alloc _=>true | _=>false)&&o.dst.isSome&&o.guard.isNone&&(aft o).isEmpty&&(List.range ops.size).all fun r=>r==x || (dstOf ops r).all fun d=>o.dst != some d
 | none=>false
def ordL (ops:Array Oper) (fl0:List Nat):List Nat→List Nat→Bool
 | _,[]=>true
 | dn,q::r=>(aftOf ops q).all (fun x=>dn.contains x || !fl0.contains x)&&ordL ops fl0 (q::dn) r
def chB (ops:Array Oper) (fl0:List Nat):List Nat→Bool
 | []=>true
 | j::r=>(aftOf ops j).all (fun x=>!(j::r).contains x)&&((match r with | []=>true | j' :: _=>(need ops fl0.reverse (aftOf ops j')).contains j)&&chB ops fl0 r)
def coreB (ops:Array Oper) (fl0 al0 js0:List Nat):Bool :=
 (List.range ops.size).all (fl0++(al0++js0)).contains&&(Nat.beq (fl0++(al0++js0)).length ops.size&&(decide (fl0++(al0++js0)).Nodup&&(fl0.all (lookB ops fl0)&&(al0.all (allocB ops)&&(ordL ops fl0 [] fl0&&(chB ops fl0 js0&&(js0.all (Nat.blt · ops.size)&&(List.range ops.size).all fun q=>(aftOf ops q).all (Nat.blt · ops.size))))))))
def idxB (ops:Array Oper) (fl0 js fl al vi:List Nat):Bool :=
 fl.all (fun q=>vi.contains q || (need ops fl0.reverse (aftOf ops q)).any js.contains)&&(vi.all (fun q=>fl.contains q&&(aftOf ops q).all fun x=>!js.contains x&&(!al.contains x&&(!fl.contains x || vi.contains x))) &&
  match js with
  | []=>true
  | j::_=>(need ops fl0.reverse (aftOf ops j)).all fun x=>!fl.contains x || vi.contains x)
def nmOf (ops:Array Oper) (p:Name) (x:Nat):Name:=(dstOf ops x).getD 0::p
def zOf (P:Program) (ops:Array Oper) (x:Nat):V:=match ops[x]? with
 | some o=>(match o.op with | .alloc ty=>tzero P ty | _=>.dead)
 | none=>.dead
def adoptAll (P:Program) (ops:Array Oper) (p:Name) (l:List Nat) (s:Sa):Sa:=putAll ops { s with bx:=l.map (fun x=>(nmOf ops p x,zOf P ops x))++s.bx } (l.map fun x=>(x,V.ptr (nmOf ops p x) 0))
def restr (R:List Name) (s:Sa):Sa:={ s with bx:=s.bx.filter fun x=>R.contains x.1,vc:=s.vc.filter fun x=>R.contains x.1 }
structure StC (P:Program) (p:Name) (ops:Array Oper) (fl0 js fl al:List Nat) (V0:List (Nat×V)) (s:Sa):Prop where
 ix:idxB ops fl0 js fl al (V0.map (·.1))=true
 fr:∀ x∈al,s.refs (nmOf ops p x)=false∧lookN (nmOf ops p x) s.bx=none∧∀ y∈V0,y.2.refs (nmOf ops p x)=false
 zr:∀ x∈al,isCells (zOf P ops x)=true∧(zOf P ops x).notNil=true∧∀ ty o,ops[x]? = some o→o.op = .alloc ty→(tzero P ty).cells.length=tsz P ty
 dst:∀ x∈al,∀ d,dstOf ops x=some d→d<s.n
 dead:∀ q,(q∈fl∨q∈al)→∀ d,dstOf ops q=some d→lkT d s.ts = .dead
def keepC (ops:Array Oper) (V1:List (Nat×V)) (V0:List (Nat×V)) (hbs:List (Nat×Sa)) (d:Option Tmp) (s s1 sj:Sa):Prop :=
 (∀ h∈hbs,BxExt h.2 sj)∧sj.n=s.n∧(∀ q∈V1,∀ u∈readsOf ops q.1,(∃ r∈V1,dstOf ops r.1=some u)∨lkT u (putAll ops sj V1).ts=lkT u (putAll ops s V0).ts)∧∀ q∈V1,KeepV (d.toList++V1.filterMap fun q=>dstOf ops q.1) s1 sj q.2
def newV (ops:Array Oper) (fl0 js fl al vi:List Nat):List Nat:=fl.filter fun q=>!vi.contains q&&(need ops fl0.reverse (aftOf ops q)).all fun x=>!js.contains x && !al.contains x
def evOut (P:Program) (p:Name) (ops:Array Oper) (fl0 fl al:List Nat) (V0:List (Nat×V)) (s:Sa) (k:Sa→Prop):Prop :=
 StC P p ops fl0 [] fl al V0 s∧k (adoptAll P ops p al (putAll ops s V0))
def evIn (P:Program) (kt:TypeId→V→Sa→Prop) (p:Name) (ops:Array Oper) (fl0:List Nat) (j:Nat) (js fl al:List Nat) (V0:List (Nat×V)) (hbs:List (Nat×Sa)) (s:Sa) (nx:List (Nat×V)→Sa→Prop):Prop :=
 StC P p ops fl0 (j::js) fl al V0 s∧match ops[j]? with
  | some oj =>
   let N:=need ops fl0.reverse (aft oj)
   let s1:=adoptAll P ops p (al.filter N.contains) (putAll ops s (V0.filter fun q=>N.contains q.1))
   let V1:=V0.filter fun q=>!N.contains q.1
   evOps P (semsT P kt) p ops [oj] s1 fun sj=>keepC ops V1 V0 hbs oj.dst s s1 sj∧nx V1 sj
  | none=>False
def stepV (ops:Array Oper) (V0:List (Nat×V)) (nw:List Nat) (s2:Sa):List (Nat×V):=V0++nw.map fun q=>(q,lkD (dstOf ops q) s2)
def evSegR (P:Program) (p:Name) (ops:Array Oper):List Nat→List (Nat×Sa)→Sa→(List (Nat×Sa)→Sa→Prop)→Prop
 | [],hn,s,k=>k hn s
 | i::rest,hn,s,k=>match ops[i]? with
  | some o=>∃ R,nilOK (restr R s) o.op=true∧evOps P (semsP P) p ops [o] (restr R s) fun s'=>evSegR P p ops rest (hn++[(i,restr R s)]) { s' with bx:=s.bx,vc:=s.vc } k
  | none=>False
def evCore (P:Program) (kt:TypeId→V→Sa→Prop) (p:Name) (ops:Array Oper) (fl0:List Nat):List Nat→List Nat→List Nat→List (Nat×V)→List (Nat×Sa)→Sa→(Sa→Prop)→Prop
 | [],fl,al,V0,hbs,s,k=>evSegR P p ops (newV ops fl0 [] fl al (V0.map (·.1))) [] (putAll ops s V0) fun hn s2 =>
   evOut P p ops fl0 fl al (stepV ops V0 (newV ops fl0 [] fl al (V0.map (·.1))) s2) s k
 | j::js,fl,al,V0,hbs,s,k=>evSegR P p ops (newV ops fl0 (j::js) fl al (V0.map (·.1))) [] (putAll ops s V0) fun hn s2 =>
   let N:=need ops fl0.reverse (aftOf ops j)
   evIn P kt p ops fl0 j js fl al (stepV ops V0 (newV ops fl0 (j::js) fl al (V0.map (·.1))) s2) ((hn++hbs).filter fun x=>!N.contains x.1) s fun V1 sj =>
    evCore P kt p ops fl0 js (fl.filter fun q=>!N.contains q) (al.filter fun x=>!N.contains x) V1 ((hn++hbs).filter fun x=>!N.contains x.1) sj k
structure Facts (P:Program) (p:Name) (ops:Array Oper) (V0:List (Nat×V)) (hbs:List (Nat×Sa)) (s:Sa):Prop where
 hb:∀ h∈hbs,BxExt h.2 s
 f:∀ q∈V0,∃ st h,OpFact P p ops q.1 q.2 st∧(q.1,h)∈hbs∧BxExt st h∧st.n=s.n∧∀ u∈readsOf ops q.1,lkT u st.ts=lkT u (putAll ops s V0).ts
 nd:(V0.map (·.1)).Nodup
theorem lookB_inv {fl0:List Nat} {q:Nat} (h:lookB ops fl0 q=true):∃ o d,ops[q]? = some o∧calm o.op=true∧o.dst=some d∧d ∉ opReads ops o∧∀ r<ops.size,r≠q→∀ e,dstOf ops r=some e→d≠e∧(e∈opReads ops o→r∈fl0→r∈aft o):=by
 unfold lookB at h
 split at h
 ·rename_i o ho
  simp only [Bool.and_eq_true,List.all_eq_true,List.mem_range] at h
  obtain ⟨⟨h1,h2⟩,h3⟩:=h
  obtain ⟨d,hd⟩:=Option.isSome_iff_exists.1 h2
  have hq:q<ops.size:=(Array.getElem?_eq_some_iff.1 ho).1
  refine ⟨o,d,ho,h1,hd,?_,fun r hr hne e he=>?_⟩
  ·have:=h3 q hq
   rw [dstOf_eq ho,hd] at this
   simpa using this
  ·have:=h3 r hr
   rw [he] at this
   simp only [Option.all_some,if_neg hne,Bool.and_eq_true,bne_iff_ne,Bool.or_eq_true,Bool.not_eq_true',List.contains_eq_mem,decide_eq_false_iff_not,decide_eq_true_eq,hd] at this
   exact ⟨fun e2=>this.1 (by rw [e2]),fun hm h0=>(this.2.resolve_left (fun h=>h hm)).resolve_left fun h=>h h0⟩
 ·cases h
theorem allocB_inv {x:Nat} (h:allocB ops x=true):∃ o ty d,ops[x]? = some o∧o.op = .alloc ty∧o.dst=some d∧o.guard=none∧aft o=[]∧∀ r<ops.size,r≠x→∀ e,dstOf ops r=some e→d≠e:=by
 unfold allocB at h
 split at h
 ·rename_i o ho
  simp only [Bool.and_eq_true,List.all_eq_true,List.mem_range] at h
  obtain ⟨⟨⟨⟨h1,h2⟩,h3⟩,h4⟩,h5⟩:=h
  obtain ⟨d,hd⟩:=Option.isSome_iff_exists.1 h2
  split at h1
  ·rename_i ty hty
   refine ⟨o,ty,d,ho,hty,hd,by simpa using h3,by simpa using h4,fun r hr hne e he=>?_⟩
   have:=h5 r hr
   rw [he] at this
   simp only [Option.all_some,Bool.or_eq_true,beq_iff_eq,bne_iff_ne,hd] at this
   rcases this with h | h
   ·exact absurd h hne
   ·exact fun e2=>h (by rw [e2])
  ·cases h1
 ·cases h
theorem ordL_split {fl0:List Nat}:∀ (pre:List Nat) {dn post:List Nat} {q:Nat},ordL ops fl0 dn (pre++q::post)=true→∀ x∈aftOf ops q,x∈fl0→x∈dn∨x∈pre
 | [],dn,post,q,h,x,hx,hf=>by
  simp only [List.nil_append,ordL,Bool.and_eq_true,List.all_eq_true] at h
  have:=h.1 x hx
  simp only [Bool.or_eq_true,Bool.not_eq_true',List.contains_eq_mem,decide_eq_true_eq,decide_eq_false_iff_not] at this
  exact .inl (this.resolve_right fun h=>h hf)
 | y::pre,dn,post,q,h,x,hx,hf=>by
  simp only [List.cons_append,ordL,Bool.and_eq_true] at h
  rcases ordL_split pre h.2 x hx hf with h1 | h1
  ·rcases List.mem_cons.1 h1 with e | h1
   ·subst e;exact .inr List.mem_cons_self
   ·exact .inl h1
  ·exact .inr (List.mem_cons_of_mem _ h1)
theorem apart_of {fl0:List Nat} {l:List (Nat×V)} (hnd:(l.map (·.1)).Nodup) (hl:∀ x∈l,lookB ops fl0 x.1=true):Apart ops l:=by
 have same:∀ x∈l,∀ y∈l,x.1=y.1→x=y:=by
  intro x hx y hy e
  obtain ⟨i,hi,rfl⟩:=List.getElem_of_mem hx
  obtain ⟨j,hj,rfl⟩:=List.getElem_of_mem hy
  have:=(List.getElem_inj (xs:=l.map (·.1)) (h₀:=by simpa using hi) (h₁:=by simpa using hj) hnd).1 (by simpa using e)
  subst this;rfl
 intro x hx y hy t h1 h2
 refine same x hx y hy (Classical.byContradiction fun hne=>?_)
 obtain ⟨o,d,ho,_,hd,_,h⟩:=lookB_inv (hl x hx)
 obtain ⟨o2,d2,ho2,_⟩:=lookB_inv (hl y hy)
 have e:d=t:=by rw [dstOf_eq ho,hd] at h1;exact Option.some.inj h1
 exact (h y.1 (Array.getElem?_eq_some_iff.1 ho2).1 (fun e=>hne e.symm) t h2).1 e
theorem reads_part {fl0:List Nat} {l l' : List (Nat×V)} {q:Nat} (hq:lookB ops fl0 q=true) (hnd:(l.map (·.1)).Nodup) (hl:∀ x∈l,lookB ops fl0 x.1=true) (h0:∀ x∈l,x.1∈fl0) (hsub:∀ x∈l',x∈l) (hin:∀ x∈l,x.1∈aftOf ops q→x∈l') :
  ∀ u∈readsOf ops q,lkT u (putAll ops s l').ts=lkT u (putAll ops s l).ts:=by
 intro u hu
 have ha:=apart_of hnd hl
 have ha' : Apart ops l':=fun x hx y hy=>ha x (hsub x hx) y (hsub y hy)
 by_cases hex:∃ x∈l,dstOf ops x.1=some u
 ·obtain ⟨x,hx,hd⟩:=hex
  obtain ⟨o,d,ho,_,_,hs,h⟩:=lookB_inv hq
  have hu' : u∈opReads ops o:=by simpa only [readsOf,ho] using hu
  have hxa:x.1∈aftOf ops q:=by
   have hne:x.1≠q:=fun e=>by
    rw [e,dstOf_eq ho] at hd
    rw [‹o.dst=some d›] at hd
    cases hd;exact hs hu'
   obtain ⟨o2,_,ho2,_⟩:=lookB_inv (hl x hx)
   simpa only [aftOf,ho] using (h x.1 (Array.getElem?_eq_some_iff.1 ho2).1 hne u hd).2 hu' (h0 x hx)
  rw [lk_mem ha hx hd,lk_mem ha' (hin x hx hxa) hd]
 ·rw [lk_not (fun x hx hd=>hex ⟨x,hx,hd⟩),lk_not (fun x hx hd=>hex ⟨x,hsub x hx,hd⟩)]
theorem Rel.tellAll:∀ (l:List (Nat×V)) {s:Sa},Rel Mo m s (a::sv) w→(∀ x∈l,∀ d,dstOf ops x.1=some d→RepV w (Tot Mo s.bx s.ow m) m x.2 (a.tmps.getD d undef))→Rel Mo m (putAll ops s l) (a::sv) w
 | [],s,h,_=>h
 | x::l,s,h,hv=>by
  show Rel Mo m (putAll ops (s.put (dstOf ops x.1) x.2) l) (a::sv) w
  cases hd:dstOf ops x.1 with
  | none=>exact Rel.tellAll l h fun y hy=>hv y (List.mem_cons_of_mem _ hy)
  | some d=>exact Rel.tellAll l (h.tell (hv x List.mem_cons_self d hd)) fun y hy=>hv y (List.mem_cons_of_mem _ hy)
theorem Rel.like (h:Rel Mo m s (a::sv) w) {s' : Sa} (hl:Like s' s):Rel Mo m s' (a::sv) w :=
 h.ts' hl.rd hl.n hl.sv hl.bx hl.lp hl.ow hl.vc fun t=>by rw [hl.ts t];exact h.get t
theorem restr_ext {R:List Name}:BxExt (restr R s) s:=by
 refine ⟨fun nm c hc=>?_,fun nm c hc=>?_⟩ <;> simp only [restr,lookN_filter (q:=fun n=>R.contains n)] at hc <;> (split at hc;exact hc;cases hc)
theorem evSegR_run {k:List (Nat×Sa)→Sa→Prop}:∀ (l:List Nat) {s:Sa} {hn:List (Nat×Sa)},(∀ i∈l,∃ o,ops[i]? = some o∧calm o.op=true)→evSegR P p ops l hn s k →
  ∃ (ivs:List (Nat×V)) (hn2:List (Nat×Sa)) (s' : Sa),ivs.map Prod.fst=l∧Like s' (putAll ops s ivs)∧k (hn++hn2) s' ∧ (∀ x∈hn2,BxExt x.2 s)∧∀ pre i v post,ivs=pre++(i,v)::post→∃ st,OpFact P p ops i v st∧(i,st)∈hn2∧st.n=s.n∧∀ t,lkT t st.ts=lkT t (putAll ops s pre).ts:=by
 intro l
 induction l with
 | nil=>intro s hn _ h;exact ⟨[],[],s,rfl,Like.refl s,by simpa [evSegR] using h,fun x hx=>absurd hx List.not_mem_nil,fun pre i v post e=>by simp at e⟩
 | cons i l ih =>
  intro s hn hc h
  obtain ⟨o,ho,hcalm⟩:=hc i List.mem_cons_self
  simp only [evSegR,ho] at h
  obtain ⟨R,h1,h2⟩:=h
  obtain ⟨v,s1,hl,hk,hf⟩:=evSeg_op ho hcalm h1 h2
  obtain ⟨ivs,hn2,s',g1,g2,g3,g4,g5⟩:=ih (fun j hj=>hc j (List.mem_cons_of_mem _ hj)) hk
  have e:∀ l',putAll ops s ((i,v)::l')=putAll ops (s.put o.dst v) l':=fun l'=>by show putAll ops (s.put (dstOf ops i) v) l' = _;rw [dstOf_eq ho]
  have hlk:Like { s1.put o.dst v with bx:=s.bx,vc:=s.vc } (s.put o.dst v):=by
   have h9:=hl.put o.dst v
   have h8:(s.put o.dst v).bx=s.bx∧(s.put o.dst v).vc=s.vc:=by cases o.dst <;> exact ⟨rfl,rfl⟩
   have h7:(restr R s).put o.dst v=restr R (s.put o.dst v):=by cases o.dst <;> rfl
   rw [h7] at h9
   exact ⟨h9.rd,h9.n,h9.sv,h8.1.symm,h9.lp,h9.ow,h9.ts,h8.2.symm⟩
  refine ⟨(i,v)::ivs,(i,restr R s)::hn2,s',by simp [g1],?_,by simpa using g3,fun x hx=>?_,?_⟩
  ·rw [e];exact g2.trans (hlk.putAll ivs)
  ·rcases List.mem_cons.1 hx with rfl | hx
   ·exact restr_ext
   ·have:=g4 x hx
    exact ⟨fun nm c hc=>this.1 nm c hc,fun nm c hc=>this.2 nm c hc⟩
  ·intro pre j u post he
   cases pre with
   | nil =>
    simp only [List.nil_append,List.cons.injEq,Prod.mk.injEq] at he
    obtain ⟨⟨rfl,rfl⟩,_⟩:=he
    exact ⟨_,hf,List.mem_cons_self,rfl,fun t=>rfl⟩
   | cons x pre =>
    simp only [List.cons_append,List.cons.injEq] at he
    obtain ⟨rfl,he⟩:=he
    obtain ⟨st,f1,f2,f3,f4⟩:=g5 pre j u post he
    refine ⟨st,f1,List.mem_cons_of_mem _ f2,f3.trans (hlk.n.trans (by cases o.dst <;> rfl)),fun t=>(f4 t).trans ?_⟩
    rw [e]
    exact (hlk.putAll pre).ts t
theorem Facts.more {fl0 js fl al:List Nat} {V0:List (Nat×V)} {hbs:List (Nat×Sa)} {G:List (Nat×Sa)→List (Nat×V)→Prop} (hF:Facts P p ops V0 hbs s) (hfl0:∀ q∈fl0,lookB ops fl0 q=true) (hord:ordL ops fl0 [] fl0=true) (hfl:fl.Sublist fl0) (hnd0:fl0.Nodup) (hV:∀ q∈V0,q.1∈fl)
  (hVa:∀ q∈V0,∀ x∈aftOf ops q.1,x∈fl→x∈V0.map (·.1))
  (h:evSegR P p ops (newV ops fl0 js fl al (V0.map (·.1))) [] (putAll ops s V0) fun hn s2=>G hn (stepV ops V0 (newV ops fl0 js fl al (V0.map (·.1))) s2)) :
  ∃ iv hn,G hn (V0++iv)∧Facts P p ops (V0++iv) (hn++hbs) s∧iv.map (·.1)=newV ops fl0 js fl al (V0.map (·.1)):=by
 obtain ⟨nw,hnw⟩:∃ nw,nw=newV ops fl0 js fl al (V0.map (·.1)):=⟨_,rfl⟩
 rw [← hnw] at h ⊢
 have nwfl:nw.Sublist fl:=by rw [hnw];exact List.filter_sublist
 have nwV:∀ q∈nw,q ∉ V0.map (·.1):=fun q hq=>by
  rw [hnw] at hq
  have:=(List.mem_filter.1 hq).2
  simp only [Bool.and_eq_true,Bool.not_eq_true',List.contains_eq_mem,decide_eq_false_iff_not] at this
  exact this.1
 have lk:∀ q∈fl,lookB ops fl0 q=true:=fun q hq=>hfl0 q (hfl.subset hq)
 obtain ⟨ivs,hn,s2,e1,e2,e3,e8,e4⟩:=evSegR_run nw (fun i hi=>by
  obtain ⟨o,d,ho,hc,_⟩:=lookB_inv (lk i (nwfl.subset hi))
  exact ⟨o,ho,hc⟩) h
 have ivn:(ivs.map (·.1)).Nodup:=by rw [show ivs.map (·.1)=nw from e1];exact (nwfl.trans hfl).nodup hnd0
 have fi:∀ x∈ivs,x.1∈nw:=fun x hx=>by rw [← e1];exact List.mem_map_of_mem hx
 have lki:∀ x∈ivs,lookB ops fl0 x.1=true:=fun x hx=>lk _ (nwfl.subset (fi x hx))
 have api:=apart_of ivn lki
 have ivse:(nw.map fun q=>(q,lkD (dstOf ops q) s2))=ivs:=by
  rw [← e1,List.map_map]
  conv=>rhs;rw [← List.map_id ivs]
  refine List.map_congr_left fun x hx=>?_
  obtain ⟨o,d,ho,hc,hd,_⟩:=lookB_inv (lki x hx)
  have hdd:dstOf ops x.1=some d:=(dstOf_eq ho).trans hd
  simp only [Function.comp,id,hdd,lkD,e2.ts d,lk_mem api hx hdd]
 have e5:stepV ops V0 nw s2=V0++ivs:=by rw [stepV,ivse]
 rw [e5] at e3
 simp only [List.nil_append] at e3
 obtain ⟨d1,d2,d3,d4,d5,d6⟩:=putAll_fields (ops:=ops) (s:=s) V0
 have hnd:((V0++ivs).map (·.1)).Nodup:=by
  rw [List.map_append,List.nodup_append]
  refine ⟨hF.nd,ivn,fun x hx y hy e=>?_⟩
  subst e
  rw [show ivs.map (·.1)=nw from e1] at hy
  exact nwV x hy hx
 have hA0:∀ x∈V0++ivs,x.1∈fl0:=fun x hx=>(List.mem_append.1 hx).elim (fun h=>hfl.subset (hV x h)) fun h=>hfl.subset (nwfl.subset (fi x h))
 have hlkA:∀ x∈V0++ivs,lookB ops fl0 x.1=true:=fun x hx=>(List.mem_append.1 hx).elim (fun h=>lk _ (hV x h)) (lki x)
 refine ⟨ivs,hn,e3,⟨fun h hh=>?_,fun q hq=>?_,hnd⟩,e1⟩
 ·rcases List.mem_append.1 hh with hh | hh
  ·have:=e8 h hh
   exact ⟨fun nm c hc=>by rw [← d4];exact this.1 nm c hc,fun nm c hc=>by rw [← putAll_vc V0];exact this.2 nm c hc⟩
  ·exact hF.hb h hh
 ·rcases List.mem_append.1 hq with hq | hq
  ·obtain ⟨st,h,g1,g2,g3,g4,g5⟩:=hF.f q hq
   refine ⟨st,h,g1,List.mem_append_right _ g2,g3,g4,fun u hu=>?_⟩
   rw [g5 u hu]
   refine reads_part (lk _ (hV q hq)) hnd hlkA hA0 (fun x hx=>List.mem_append_left _ hx) (fun x hx hxa=>?_) u hu
   rcases List.mem_append.1 hx with h1 | h1
   ·exact h1
   ·exact absurd (hVa q hq x.1 hxa (nwfl.subset (fi x h1))) (nwV x.1 (fi x h1))
  ·obtain ⟨pre,post,hs⟩:=List.append_of_mem hq
   obtain ⟨q1,v⟩:=q
   obtain ⟨st,hf,hm,hsn,hts⟩:=e4 pre q1 v post hs
   refine ⟨st,st,hf,List.mem_append_left _ hm,⟨fun _ _ h=>h,fun _ _ h=>h⟩,hsn.trans d2,fun u hu=>?_⟩
   ·have e6:lkT u st.ts=lkT u (putAll ops s (V0++pre)).ts:=by
     rw [hts u,putAll_append]
    rw [e6]
    have hnwq:q1∈nw:=fi (q1,v) hq
    refine reads_part (lk _ (nwfl.subset hnwq)) hnd hlkA hA0 (fun x hx=>?_) (fun x hx hxa=>?_) u hu
    ·rcases List.mem_append.1 hx with h1 | h1
     ·exact List.mem_append_left _ h1
     ·exact List.mem_append_right _ (by rw [hs];exact List.mem_append_left _ h1)
    ·rcases List.mem_append.1 hx with h1 | h1
     ·exact List.mem_append_left _ h1
     ·
      refine List.mem_append_right _ ?_
      have hx1:x.1∈fl0:=hfl.subset (nwfl.subset (fi x h1))
      have hq1:q1∈fl0:=hfl.subset (nwfl.subset hnwq)
      obtain ⟨A,B,hAB⟩:=List.append_of_mem hq1
      have h2:=hord
      rw [hAB] at h2
      have hA:=(ordL_split A h2 x.1 hxa (by rw [← hAB];exact hx1)).resolve_left (by simp)
      have hsl:(ivs.map (·.1)).Sublist fl0:=by rw [show ivs.map (·.1)=nw from e1];exact nwfl.trans hfl
      rw [hs] at h1
      rcases List.mem_append.1 h1 with h3 | h3
      ·exact h3
      ·exfalso
       rw [hs,hAB,List.map_append,List.map_cons] at hsl
       rw [hAB,List.nodup_append] at hnd0
       rcases List.mem_cons.1 h3 with h4 | h4
       ·rw [h4] at hA;exact hnd0.2.2 _ hA _ List.mem_cons_self rfl
       ·have hx2:x.1∈post.map (·.1):=List.mem_map_of_mem h4
        have hsl2:[q1,x.1].Sublist (A++q1::B):=by
         refine List.Sublist.trans ?_ hsl
         refine List.Sublist.trans ?_ (List.sublist_append_right _ _)
         exact List.Sublist.cons_cons _ (List.singleton_sublist.2 hx2)
        obtain ⟨l1,l2,e7,g1,g2⟩:=List.sublist_append_iff.1 hsl2
        cases l1 with
        | nil =>
         simp only [List.nil_append] at e7
         subst e7
         have:x.1∈q1::B:=g2.subset (by simp)
         exact hnd0.2.2 _ hA _ this rfl
        | cons y l1 =>
         simp only [List.cons_append,List.cons.injEq] at e7
         obtain ⟨rfl,_⟩:=e7
         exact hnd0.2.2 _ (g1.subset List.mem_cons_self) _ List.mem_cons_self rfl
end Go.Ab
namespace Go.Ab
open Go Go.RowKit
variable {P:Program} {a:Act} {w:World} {n:Nat} {Mo:Cells} {m:Mp} {s:Sa} {p:Name} {k:Sa→Prop} {Q:Exit→Act→World→Prop} {sv:List Act} {ops:Array Oper} {kt:TypeId→V→Sa→Prop}
theorem constV_pure (v:Value):(constV v).bxs=[]∧(constV v).ows=[]∧(constV v).lps=[]∧(constV v).vns=[]∧∀ nm,(constV v).refs nm=false:=by
 unfold constV
 split
 ·exact ⟨rfl,rfl,rfl,rfl,fun _=>rfl⟩
 ·split <;> exact ⟨rfl,rfl,rfl,rfl,fun _=>rfl⟩
 ·split <;> exact ⟨rfl,rfl,rfl,rfl,fun _=>rfl⟩
theorem zOf_pure (x:Nat):(zOf P ops x).bxs=[]∧(zOf P ops x).ows=[]∧(zOf P ops x).lps=[]∧(zOf P ops x).vns=[]∧∀ nm,(zOf P ops x).refs nm=false:=by
 have h0:(V.dead).bxs=[]∧(V.dead).ows=[]∧(V.dead).lps=[]∧(V.dead).vns=[]∧∀ nm,(V.dead).refs nm=false:=⟨rfl,rfl,rfl,rfl,fun _=>rfl⟩
 unfold zOf
 split
 ·split
  ·unfold tzero
   split
   ·exact constV_pure _
   ·exact h0
  ·exact h0
 ·exact h0
structure AlOK (P:Program) (ops:Array Oper) (w:World) (M:Cells) (m:Mp) (s:Sa) (a:Act) (b0:Nat) (x b:Nat):Prop where
 ptr:∀ d,dstOf ops x=some d→a.tmps.getD d undef = .pointer (some ⟨b,0,none⟩)
 blk:∃ cs T,w.heap[b]? = some (.cells cs T (0,0))∧cs.size=(zOf P ops x).cells.length∧(∀ i,i<(zOf P ops x).cells.length→leaf (cs.getD i undef)=true)∧∀ i (hi:i<(zOf P ops x).cells.length),RepV w M m (zOf P ops x).cells[i] (cs.getD i undef)
 nmut:∀ o,¬ Mut s.bx s.ow m b o
 lpb : ¬ LpB s.lp m b
 nnew:b0≤b
theorem AlOK.lt {M:Cells} {b0 x b:Nat} (h:AlOK P ops w M m s a b0 x b):b<w.heap.size:=by
 obtain ⟨cs,T,h,_⟩:=h.blk
 exact (Array.getElem?_eq_some_iff.1 h).1
theorem AlOK.congr {b0 x b:Nat} (h:AlOK P ops w (Tot Mo s.bx s.ow m) m s a b0 x b) {s' : Sa} (h1:s'.bx=s.bx) (h2:s'.ow=s.ow) (h3:s'.lp=s.lp):AlOK P ops w (Tot Mo s'.bx s'.ow m) m s' a b0 x b :=
 ⟨h.ptr,by rw [h1,h2];exact h.blk,by rw [h1,h2];exact h.nmut,by rw [h3];exact h.lpb,h.nnew⟩
theorem zcell {x:Nat} {w' : World} {M M' : Cells} {m' : Mp} (hs:Stab w M w' M') {i:Nat} (hi:i<(zOf P ops x).cells.length) {c:Value} (h:RepV w M m (zOf P ops x).cells[i] c):RepV w' M' m' (zOf P ops x).cells[i] c:=by
 obtain ⟨h1,h2,h3,h4,_⟩:=zOf_pure (P:=P) (ops:=ops) x
 refine h.mono hs (fun n hn=>?_) (fun n hn=>?_) (fun n hn=>?_) (fun n hn=>?_)
 ·have:=bxs_cells _ i hi n hn;rw [h1] at this;cases this
 ·have:=ows_cells _ i hi n hn;rw [h2] at this;cases this
 ·have:=lps_cells _ i hi n hn;rw [h3] at this;cases this
 ·have:=vns_cells _ i hi n hn;rw [h4] at this;cases this
theorem AlOK.step {M' : Cells} {as:List Act} {b0 x b:Nat} {m' : Mp} {s' : Sa} {w' : World} {a' : Act} (h:AlOK P ops w (Tot Mo s.bx s.ow m) m s a b0 x b) (hst:Step m s w m' s' w') (hR:Rel Mo m s as w)
  (hM:∀ b o,M' b o→Tot Mo s'.bx s'.ow m' b o) (ht:∀ d,dstOf ops x=some d→a'.tmps.getD d undef=a.tmps.getD d undef):AlOK P ops w' M' m' s' a' b0 x b:=by
 have hlt:=h.lt
 refine ⟨fun d hd=>by rw [ht d hd];exact h.ptr d hd,?_,fun o ho=>h.nmut o (hst.mt b o hlt ho),fun ho=>h.lpb (hst.lp b hlt ho),h.nnew⟩
 obtain ⟨cs,T,h1,h2,h3,h4⟩:=h.blk
 exact ⟨cs,T,by rw [hst.keeps.blk b hlt h.nmut h.lpb];exact h1,h2,h3,fun i hi=>zcell (fun b o c hc hm=>let ⟨g1,g2⟩:=hst.stab hR b o c hc hm;⟨g1,fun ht=>g2 (hM _ _ ht)⟩) hi (h4 i hi)⟩
theorem refs_bx {nm:Name} {l:List (Name×V)} (h:s.refs nm=false) (hl:∀ x∈l,x.2.refs nm=false):({ s with bx:=l++s.bx }:Sa).refs nm=false:=by
 simp only [Sa.refs,Bool.or_eq_false_iff] at h ⊢
 refine ⟨h.1,h.2.1,?_⟩
 simp only [List.any_append,Bool.or_eq_false_iff]
 exact ⟨List.any_eq_false.2 fun x hx=>by rw [hl x hx];simp,h.2.2⟩
theorem refs_put' {nm:Name} {d:Option Tmp} {v:V} (h:s.refs nm=false) (hv:v.refs nm=false):(s.put d v).refs nm=false:=by
 cases d with
 | none=>exact h
 | some d =>
  simp only [Sa.refs,Bool.or_eq_false_iff] at h ⊢
  refine ⟨h.1,⟨?_,h.2.1.2⟩,h.2.2⟩
  have h1:=h.2.1.1
  simp only [Sa.put]
  generalize s.ts=l at h1
  induction l with
  | nil=>simp [setT,hv]
  | cons x l ih =>
   obtain ⟨a,b⟩:=x
   simp only [List.any_cons,Bool.or_eq_false_iff] at h1
   simp only [setT]
   split
   ·simp only [List.any_cons,hv,h1.2,Bool.or_self]
   ·simp only [List.any_cons,h1.1,ih h1.2,Bool.or_self]
theorem refs_putAll {nm:Name}:∀ (l:List (Nat×V)) {s:Sa},s.refs nm=false→(∀ x∈l,x.2.refs nm=false)→(putAll ops s l).refs nm=false
 | [],s,h,_=>h
 | x::l,s,h,hl=>refs_putAll l (refs_put' h (hl x List.mem_cons_self)) fun y hy=>hl y (List.mem_cons_of_mem _ hy)
theorem look_none {nm:Name} {l l' : List (Name×V)} (h:∀ x∈l,x.1≠nm):lookN nm (l++l')=lookN nm l':=by
 induction l with
 | nil=>rfl
 | cons x l ih =>
  obtain ⟨a,b⟩:=x
  simp only [List.cons_append,lookN]
  rw [if_neg (h (a,b) List.mem_cons_self),ih fun y hy=>h y (List.mem_cons_of_mem _ hy)]
theorem adopt_ok {as:List Act} {b0:Nat} {bs:Nat→Nat} {B:List Nat}:∀ (l:List Nat),(l.map (nmOf ops p)).Nodup→(∀ x∈l,∀ y∈l,bs x=bs y→x=y)→Rel (MoB Mo (l.map bs++B)) m s as w →
  (∀ x∈l,AlOK P ops w (Tot (MoB Mo (l.map bs++B)) s.bx s.ow m) m s a b0 x (bs x))→(∀ x∈l,s.refs (nmOf ops p x)=false∧lookN (nmOf ops p x) s.bx=none)→(∀ x∈l,isCells (zOf P ops x)=true) →
  ∃ m',Rel (MoB Mo B) m' { s with bx:=l.map (fun x=>(nmOf ops p x,zOf P ops x))++s.bx } as w∧(∀ x∈l,m'.bx (nmOf ops p x)=bs x)∧(∀ nm,nm ∉ l.map (nmOf ops p)→m'.bx nm=m.bx nm)∧m'.ow=m.ow∧m'.lp=m.lp∧m'.vl=m.vl
 | [],_,_,hR,_,_,_=>⟨m,hR,by simp,fun _ _=>rfl,rfl,rfl,rfl⟩
 | x::l,hnd,hinj,hR,hA,hf,hz=>by
  rw [List.map_cons,List.nodup_cons] at hnd
  have hmv:∀ b o,MoB Mo (l.map bs++(bs x::B)) b o↔MoB Mo ((x::l).map bs++B) b o:=fun b o=>by
   simp only [MoB,List.map_cons,List.mem_append,List.mem_cons]
   constructor <;> (rintro (h | h) <;> grind)
  have hR0:Rel (MoB Mo (l.map bs++(bs x::B))) m s as w:=hR.lessMo fun b o h=>(hmv b o).1 h
  have hxl:x ∉ l:=fun h=>hnd.1 (List.mem_map_of_mem h)
  obtain ⟨m1,g1,g2,g3,g4,g5,g6⟩:=adopt_ok (B:=bs x::B) l hnd.2 (fun y hy z hz=>hinj y (List.mem_cons_of_mem _ hy) z (List.mem_cons_of_mem _ hz)) hR0
   (fun y hy=>by
    have:=hA y (List.mem_cons_of_mem _ hy)
    refine ⟨this.ptr,?_,this.nmut,this.lpb,this.nnew⟩
    obtain ⟨cs,T,h1,h2,h3,h4⟩:=this.blk
    exact ⟨cs,T,h1,h2,h3,fun i hi=>zcell (fun b o c hc hm=>⟨hc,fun ht=>hm (ht.imp (hmv b o).1 id)⟩) hi (h4 i hi)⟩)
   (fun y hy=>hf y (List.mem_cons_of_mem _ hy)) (fun y hy=>hz y (List.mem_cons_of_mem _ hy))
  have hx:=hA x List.mem_cons_self
  obtain ⟨f1,f2⟩:=hf x List.mem_cons_self
  have hnm:∀ y∈l.map (fun y=>(nmOf ops p y,zOf P ops y)),y.1≠nmOf ops p x:=fun y hy e=>by
   obtain ⟨z,hz',rfl⟩:=List.mem_map.1 hy
   exact hnd.1 (by rw [← e];exact List.mem_map_of_mem hz')
  have hlook:∀ n' c',lookN n' (l.map (fun y=>(nmOf ops p y,zOf P ops y))++s.bx)=some c' → (∃ y∈l,n' = nmOf ops p y)∨(n' ∉ l.map (nmOf ops p)∧lookN n' s.bx=some c'):=fun n' c' h=>by
   by_cases hin:n' ∈ l.map (nmOf ops p)
   ·obtain ⟨y,hy,e⟩:=List.mem_map.1 hin
    exact .inl ⟨y,hy,e.symm⟩
   ·refine .inr ⟨hin,?_⟩
    rw [look_none (fun y hy e=>hin (by obtain ⟨z,hz',rfl⟩:=List.mem_map.1 hy;rw [← e];exact List.mem_map_of_mem hz'))] at h
    exact h
  have hmut:∀ b o,Mut (l.map (fun y=>(nmOf ops p y,zOf P ops y))++s.bx) s.ow m1 b o→(∃ y∈l,b=bs y)∨Mut s.bx s.ow m b o:=fun b o h=>by
   rcases h with ⟨n',c',hl,e⟩ | h
   ·rcases hlook n' c' hl with ⟨y,hy,rfl⟩ | ⟨h1,h2⟩
    ·exact .inl ⟨y,hy,by rw [e,g2 y hy]⟩
    ·exact .inr (.inl ⟨n',c',h2,by rw [e,g3 n' h1]⟩)
   ·rw [g4] at h;exact .inr (.inr h)
  obtain ⟨cs,T,h1,h2,h3,h4⟩:=hx.blk
  have hz0:=zOf_pure (P:=P) (ops:=ops) x
  have key:=Rel.showBox (Mo:=MoB Mo B) (m:=m1) (s:={ s with bx:=l.map (fun y=>(nmOf ops p y,zOf P ops y))++s.bx }) (w:=w) (as:=as) (nm:=nmOf ops p x) (z:=zOf P ops x) (blk:=bs x) (cs:=cs) (T:=T)
   (g1.lessMo fun b o h=>by
    simp only [MoB,List.mem_cons] at h ⊢
    rcases h with (h | h) | h
    ·exact .inl h
    ·exact .inr (.inr h)
    ·exact .inr (.inl h))
   (refs_bx f1 fun y hy=>by obtain ⟨z,_,rfl⟩:=List.mem_map.1 hy;exact (zOf_pure (P:=P) (ops:=ops) z).2.2.2.2 _) (by rw [look_none hnm];exact f2) h1 (hz x List.mem_cons_self) hz0.1 h2 h3
   (fun i hi=>zcell (fun b o c hc hm=>⟨hc,fun ht=>hm (by
    rcases ht with (ht | rfl) | ht
    ·exact .inl (ht.imp id fun h=>by simp only [List.mem_append];exact .inr h)
    ·exact .inl (.inr (by simp))
    ·rcases hmut b o ht with ⟨y,hy,rfl⟩ | h
     ·exact .inl (.inr (by simp only [List.map_cons,List.mem_append,List.mem_cons];exact .inl (.inr (List.mem_map_of_mem hy))))
     ·exact .inr h)⟩) hi (h4 i hi))
   (fun o ho=>by
    rcases hmut _ o ho with ⟨y,hy,e⟩ | h
    ·exact hxl (by rw [hinj x List.mem_cons_self y (List.mem_cons_of_mem _ hy) e];exact hy)
    ·exact hx.nmut o h)
  refine ⟨_,key,fun y hy=>?_,fun nm hn=>?_,g4,g5,g6⟩
  ·rcases List.mem_cons.1 hy with rfl | hy
   ·exact if_pos rfl
   ·exact (if_neg fun e=>hnd.1 (by rw [← e];exact List.mem_map_of_mem hy)).trans (g2 y hy)
  ·rw [List.map_cons,List.mem_cons,not_or] at hn
   exact (if_neg hn.1).trans (g3 nm hn.2)
theorem told_less {fl0:List Nat} {l l' : List (Nat×V)} (hnd:(l.map (·.1)).Nodup) (hl:∀ x∈l,lookB ops fl0 x.1=true) (hsub:∀ x∈l',x∈l) (hdead:∀ x∈l,∀ d,dstOf ops x.1=some d→lkT d s.ts = .dead) (t:Nat) :
  lkT t (putAll ops s l').ts=lkT t (putAll ops s l).ts∨lkT t (putAll ops s l').ts = .dead:=by
 have ha:=apart_of hnd hl
 have ha' : Apart ops l':=fun x hx y hy=>ha x (hsub x hx) y (hsub y hy)
 by_cases hex:∃ x∈l',dstOf ops x.1=some t
 ·obtain ⟨x,hx,hd⟩:=hex
  rw [lk_mem ha' hx hd,lk_mem ha (hsub x hx) hd];exact .inl rfl
 ·rw [lk_not (l:=l') (fun x hx hd=>hex ⟨x,hx,hd⟩)]
  by_cases hex2:∃ x∈l,dstOf ops x.1=some t
  ·obtain ⟨x,hx,hd⟩:=hex2
   exact .inr (hdead x hx t hd)
  ·rw [lk_not (l:=l) (fun x hx hd=>hex2 ⟨x,hx,hd⟩)];exact .inl rfl
end Go.Ab
namespace Go.Ab
open Go Go.RowKit
variable {P:Program} {a:Act} {w:World} {n:Nat} {Mo:Cells} {m:Mp} {s:Sa} {p:Name} {k:Sa→Prop} {Q:Exit→Act→World→Prop} {sv:List Act} {ops:Array Oper} {kt:TypeId→V→Sa→Prop}
def evAt (P:Program) (kt:TypeId→V→Sa→Prop) (p:Name) (ops:Array Oper) (fl0:List Nat) (js fl al:List Nat) (V0:List (Nat×V)) (hbs:List (Nat×Sa)) (s:Sa) (k:Sa→Prop):Prop:=match js with
 | []=>evOut P p ops fl0 fl al V0 s k
 | j::js=>evIn P kt p ops fl0 j js fl al V0 (hbs.filter fun x=>!(need ops fl0.reverse (aftOf ops j)).contains x.1) s fun V1 sj =>
   evCore P kt p ops fl0 js (fl.filter fun q=>!(need ops fl0.reverse (aftOf ops j)).contains q) (al.filter fun x=>!(need ops fl0.reverse (aftOf ops j)).contains x) V1 (hbs.filter fun x=>!(need ops fl0.reverse (aftOf ops j)).contains x.1) sj k
theorem evAt_st {fl0 js fl al:List Nat} {V0:List (Nat×V)} {hbs:List (Nat×Sa)} (h:evAt P kt p ops fl0 js fl al V0 hbs s k):StC P p ops fl0 js fl al V0 s:=by
 cases js with
 | nil=>exact h.1
 | cons j js=>exact h.1
structure StL (ops:Array Oper) (p:Name) (fl0 js fl al:List Nat):Prop where
 flS:fl.Sublist fl0
 alB:∀ x∈al,allocB ops x=true
 lt:∀ q<ops.size,∀ x∈aftOf ops q,x<ops.size
 aln:al.Nodup
 jf:∀ j∈js,j ∉ fl0∧j ∉ al∧j<ops.size
 fa:∀ x∈al,x ∉ fl0
 jn:js.Nodup
 ch:chB ops fl0 js=true
structure CInv (P:Program) (p:Name) (ops:Array Oper) (Mo:Cells) (sv:List Act) (m0:Mp) (s0:Sa) (w0:World) (dd:List Deferred) (fl0 js fl al:List Nat) (V0:List (Nat×V)) (s:Sa) (tl ta:List Nat) (bs:Nat→Nat) (m:Mp) (a:Act) (w:World) (listed:Array Bool):Prop where
 rel:Rel (MoB Mo ((al.filter fun x=>!ta.contains x).map bs)) m (putAll ops s (V0.filter fun x=>!tl.contains x.1)) (a::sv) w
 st:Step m0 s0 w0 m s w
 rd:rdOf m s=rdOf m0 s0
 df:a.defers=dd
 ls:Listed ops listed fun x=>x ∉ js∧x ∉ tl∧x ∉ ta
 clo:∀ q∈fl0,(q ∉ js∧q ∉ tl∧q ∉ ta)→∀ x∈aftOf ops q,x ∉ js∧x ∉ tl∧x ∉ ta
 tlF:∀ q∈tl,q∈fl
 taA:∀ q∈ta,q∈al
 tln:tl.Nodup
 tan:ta.Nodup
 inj:∀ x∈al,x ∉ ta→∀ y∈al,y ∉ ta→bs x=bs y→x=y
 alo:∀ x∈al,x ∉ ta→AlOK P ops w (Tot (MoB Mo ((al.filter fun x=>!ta.contains x).map bs)) s.bx s.ow m) m s a w0.heap.size x (bs x)
theorem chB_pred {fl0:List Nat}:∀ {js:List Nat} {j:Nat},chB ops fl0 (j::js)=true→∀ t∈js,∃ q∈j::js,q∈need ops fl0.reverse (aftOf ops t)
 | [],j,h,t,ht=>by cases ht
 | j' :: js,j,h,t,ht=>by
  simp only [chB,Bool.and_eq_true] at h
  rcases List.mem_cons.1 ht with rfl | ht
  ·exact ⟨j,List.mem_cons_self,by simpa using h.2.1⟩
  ·obtain ⟨q,hq,h2⟩:=chB_pred (j:=j') (js:=js) (by simp only [chB,Bool.and_eq_true];exact h.2.2) t ht
   exact ⟨q,List.mem_cons_of_mem _ hq,h2⟩
theorem chB_tail {fl0 js:List Nat} {j:Nat} (h:chB ops fl0 (j::js)=true):chB ops fl0 js=true∧∀ x∈aftOf ops j,x ∉ j::js:=by
 simp only [chB,Bool.and_eq_true,List.all_eq_true] at h
 refine ⟨h.2.2,fun x hx=>?_⟩
 have:=h.1 x hx
 simpa only [Bool.not_eq_true',List.contains_eq_mem,decide_eq_false_iff_not] using this
theorem getD_put_ne {d t:Tmp} {c:Value} (h:d≠t):(a.put (some t) c).tmps.getD d undef=a.tmps.getD d undef:=by
 simp only [Act.put]
 rw [Array.getD_eq_getD_getElem?,Array.getD_eq_getD_getElem?,Array.getElem?_setIfInBounds_ne (Ne.symm h)]
theorem evCore_at {fl0 js fl al:List Nat} {V0:List (Nat×V)} {hbs:List (Nat×Sa)} (hF:Facts P p ops V0 hbs s) (hlk:∀ q∈fl0,lookB ops fl0 q=true) (hord:ordL ops fl0 [] fl0=true) (hL:StL ops p fl0 js fl al) (hnd0:fl0.Nodup) (hV:∀ q∈V0,q.1∈fl)
  (hVa:∀ q∈V0,∀ x∈aftOf ops q.1,x∈fl→x∈V0.map (·.1)) (h:evCore P kt p ops fl0 js fl al V0 hbs s k) :
  ∃ iv hn,evAt P kt p ops fl0 js fl al (V0++iv) (hn++hbs) s k∧Facts P p ops (V0++iv) (hn++hbs) s∧iv.map (·.1)=newV ops fl0 js fl al (V0.map (·.1)):=by
 cases js with
 | nil =>
  obtain ⟨iv,hn,h1,h2,h3⟩:=Facts.more (G:=fun hn V1=>evOut P p ops fl0 fl al V1 s k) hF hlk hord hL.flS hnd0 hV hVa h
  exact ⟨iv,hn,h1,h2,h3⟩
 | cons j js =>
  obtain ⟨iv,hn,h1,h2,h3⟩:=Facts.more (G:=fun hn V1=>evIn P kt p ops fl0 j js fl al V1 ((hn++hbs).filter fun x=>!(need ops fl0.reverse (aftOf ops j)).contains x.1) s fun V1 sj =>
    evCore P kt p ops fl0 js (fl.filter fun q=>!(need ops fl0.reverse (aftOf ops j)).contains q) (al.filter fun x=>!(need ops fl0.reverse (aftOf ops j)).contains x) V1 ((hn++hbs).filter fun x=>!(need ops fl0.reverse (aftOf ops j)).contains x.1) sj k) hF hlk hord hL.flS hnd0 hV hVa h
  exact ⟨iv,hn,h1,h2,h3⟩
theorem idx_inv {fl0 js fl al vi:List Nat} (h:idxB ops fl0 js fl al vi=true):(∀ q∈fl,q∈vi∨∃ x∈need ops fl0.reverse (aftOf ops q),x∈js)∧(∀ q∈vi,q∈fl∧∀ x∈aftOf ops q,x ∉ js∧x ∉ al∧(x∈fl→x∈vi)) ∧
  ∀ j r,js=j::r→∀ x∈need ops fl0.reverse (aftOf ops j),x∈fl→x∈vi:=by
 simp only [idxB,Bool.and_eq_true,List.all_eq_true,Bool.or_eq_true,List.any_eq_true,Bool.not_eq_true',List.contains_eq_mem,decide_eq_true_eq,decide_eq_false_iff_not] at h
 refine ⟨fun q hq=>(h.1 q hq).imp id fun ⟨x,h1,h2⟩=>⟨x,h1,h2⟩,fun q hq=>⟨(h.2.1 q hq).1,fun x hx=>?_⟩,fun j r hjr x hx hf=>?_⟩
 ·obtain ⟨h1,h2,h3⟩:=(h.2.1 q hq).2 x hx
  exact ⟨h1,h2,fun hf=>h3.resolve_left fun h=>h hf⟩
 ·subst hjr
  have:=h.2.2
  simp only [List.all_eq_true,Bool.or_eq_true,Bool.not_eq_true',List.contains_eq_mem,decide_eq_true_eq,decide_eq_false_iff_not] at this
  exact (this x hx).resolve_left fun h=>h hf
section
variable {m0:Mp} {s0:Sa} {w0:World} {dd:List Deferred} {fl0 js fl al:List Nat} {V0:List (Nat×V)} {tl ta:List Nat} {bs:Nat→Nat} {listed:Array Bool}
theorem CInv.lt (hI:CInv P p ops Mo sv m0 s0 w0 dd fl0 js fl al V0 s tl ta bs m a w listed) {q:Nat} (h:listed.getD q false=true):q<ops.size:=by
 have:q<listed.size:=by
  rcases Nat.lt_or_ge q listed.size with h' | h'
  ·exact h'
  ·simp [Array.getElem?_eq_none h'] at h
 rw [← hI.ls.1];exact this
theorem CInv.done (hI:CInv P p ops Mo sv m0 s0 w0 dd fl0 js fl al V0 s tl ta bs m a w listed) {q:Nat} (h:listed.getD q false=true):q ∉ js∧q ∉ tl∧q ∉ ta:=(hI.ls.false' (hI.lt h)).1 h
theorem CInv.closed (hI:CInv P p ops Mo sv m0 s0 w0 dd fl0 js fl al V0 s tl ta bs m a w listed) {S:List Nat} (hS:∀ x∈S,x ∉ js∧x ∉ tl∧x ∉ ta):∀ x∈need ops fl0.reverse S,x ∉ js∧x ∉ tl∧x ∉ ta :=
 need_all (q:=fun x=>x ∉ js∧x ∉ tl∧x ∉ ta) hS fun q hq hx x hxa=>hI.clo q (by simpa using hq) hx x hxa
theorem CInv.told (hI:CInv P p ops Mo sv m0 s0 w0 dd fl0 js fl al V0 s tl ta bs m a w listed):Step m0 s0 w0 m (putAll ops s (V0.filter fun x=>!tl.contains x.1)) w:=by
 obtain ⟨c1,c2,c3,c4,c5,c6⟩:=putAll_fields (ops:=ops) (s:=s) (V0.filter fun x=>!tl.contains x.1)
 have h:=hI.st
 exact ⟨h.keeps,by rw [c4,c6];exact h.mt,by rw [c5];exact h.lp,by rw [c1];exact h.rd,by rw [c3];exact h.svrd,h.lpm⟩
theorem CInv.ready (hI:CInv P p ops Mo sv m0 s0 w0 dd fl0 js fl al V0 s tl ta bs m a w listed) (hS:StC P p ops fl0 js fl al V0 s) (hL:StL ops p fl0 js fl al) (hord:ordL ops fl0 [] fl0=true) (hlk:∀ q∈fl0,lookB ops fl0 q=true)
  (hr:Region.ready .any ops listed=[]):js=[]∧tl=[]∧ta=[]:=by
 have no:∀ q o,ops[q]? = some o→¬ (q ∉ js∧q ∉ tl∧q ∉ ta)→(∀ x∈aft o,x<ops.size∧(x ∉ js∧x ∉ tl∧x ∉ ta))→False:=fun q o ho h1 h2=>by
  have:=ready_intro hI.ls ho h1 h2
  rw [hr] at this;cases this
 obtain ⟨ix1,ix2,ix3⟩:=idx_inv hS.ix
 have hta:ta=[]:=by
  cases hta:ta with
  | nil=>rfl
  | cons x r =>
   exfalso
   have hx:x∈ta:=by rw [hta];exact List.mem_cons_self
   obtain ⟨o,ty,d,ho,h1,h2,h3,h4,_⟩:=allocB_inv (hL.alB x (hI.taA x hx))
   exact no x o ho (fun h=>h.2.2 hx) (by rw [h4];simp)
 have hjl:∀ j∈js,j ∉ tl:=fun j hj h=>(hL.jf j hj).1 (hL.flS.subset (hI.tlF j h))
 have htl0:∀ q∈tl,q ∉ V0.map (·.1):=by
  intro q0 hq0 hv0
  obtain ⟨A,q,B,e,⟨hq,hv⟩,hA⟩:=first_in fl0 (fun q=>q∈tl∧q∈V0.map (·.1)) ⟨q0,hL.flS.subset (hI.tlF q0 hq0),hq0,hv0⟩
  obtain ⟨o,d,ho,hc,_⟩:=lookB_inv (hlk q (hL.flS.subset (hI.tlF q hq)))
  refine no q o ho (fun h=>h.2.1 hq) fun x hx=>?_
  have hx' : x∈aftOf ops q:=by simpa only [aftOf,ho] using hx
  obtain ⟨g1,g2,g3⟩:=(ix2 q hv).2 x hx'
  have hxt:x ∉ tl:=fun ht=>by
   have hxf:=hI.tlF x ht
   have h2:=hord
   rw [e] at h2
   have hxA:=(ordL_split A h2 x hx' (by rw [← e];exact hL.flS.subset hxf)).resolve_left (by simp)
   exact hA x hxA ⟨ht,g3 hxf⟩
  exact ⟨hL.lt q (Array.getElem?_eq_some_iff.1 ho).1 x hx',g1,hxt,by rw [hta];simp⟩
 have hjs:js=[]:=by
  cases hjs:js with
  | nil=>rfl
  | cons j r =>
   exfalso
   have hj:j∈js:=by rw [hjs];exact List.mem_cons_self
   obtain ⟨j1,j2,j3⟩:=hL.jf j hj
   have ho:=Array.getElem?_eq_getElem j3
   refine no j _ ho (fun h=>h.1 hj) fun x hx=>?_
   have hx' : x∈aftOf ops j:=by simpa only [aftOf,ho] using hx
   have hch:=hL.ch
   rw [hjs] at hch
   exact ⟨hL.lt j j3 x hx',by rw [hjs];exact (chB_tail hch).2 x hx',fun ht=>htl0 x ht (ix3 j r hjs x (need_self hx') (hI.tlF x ht)),by rw [hta];simp⟩
 refine ⟨hjs,?_,hta⟩
 cases htl:tl with
 | nil=>rfl
 | cons q r =>
  exfalso
  have hq:q∈tl:=by rw [htl];exact List.mem_cons_self
  rcases ix1 q (hI.tlF q hq) with h | ⟨x,_,h⟩
  ·exact htl0 q hq h
  ·rw [hjs] at h;cases h
end
end Go.Ab
namespace Go.Ab
open Go Go.RowKit
variable {P:Program} {a:Act} {w:World} {n:Nat} {Mo:Cells} {m:Mp} {s:Sa} {p:Name} {k:Sa→Prop} {Q:Exit→Act→World→Prop} {sv:List Act} {ops:Array Oper} {kt:TypeId→V→Sa→Prop}
variable {m0:Mp} {s0:Sa} {w0:World} {dd:List Deferred} {fl0 js fl al:List Nat} {V0:List (Nat×V)} {hbs:List (Nat×Sa)} {tl ta:List Nat} {bs:Nat→Nat} {listed:Array Bool}
theorem nmOf_ne {x y:Nat} (hx:allocB ops x=true) (hy:allocB ops y=true) (h:x≠y):nmOf ops p x≠nmOf ops p y:=by
 obtain ⟨o,ty,d,ho,_,hd,_,_,hx⟩:=allocB_inv hx
 obtain ⟨o2,ty2,d2,ho2,_,hd2,_⟩:=allocB_inv hy
 have:=hx y (Array.getElem?_eq_some_iff.1 ho2).1 (Ne.symm h) d2 (by rw [dstOf_eq ho2,hd2])
 simp only [nmOf,dstOf_eq ho,dstOf_eq ho2,hd,hd2,Option.getD_some]
 exact fun e=>this (List.cons.inj e).1
theorem filter_erase {l:List (Nat×V)} {tl:List Nat} (htn:tl.Nodup) {r:Nat} {x:Nat×V}:x∈l.filter (fun x=>!(tl.erase r).contains x.1)↔x∈l∧(x.1 ∉ tl∨x.1=r):=by
 simp only [List.mem_filter,Bool.not_eq_true',List.contains_eq_mem,decide_eq_false_iff_not,htn.mem_erase_iff]
 refine and_congr_right fun _=>?_
 by_cases h:x.1=r <;> simp [h]
theorem not_erase {tl:List Nat} (htn:tl.Nodup) {r x:Nat}:x ∉ tl.erase r↔x ∉ tl∨x=r:=by
 rw [htn.mem_erase_iff]
 by_cases h:x=r <;> simp [h]
theorem look_fire {r:Nat} {o:Oper} {K:Act→World→Prop} (hI:CInv P p ops Mo sv m0 s0 w0 dd fl0 js fl al V0 s tl ta bs m a w listed) (hS:StC P p ops fl0 js fl al V0 s) (hL:StL ops p fl0 js fl al) (hlk:∀ q∈fl0,lookB ops fl0 q=true) (hF:Facts P p ops V0 hbs s)
  (ho:ops[r]? = some o) (hr:r∈tl) (haft:∀ x∈aft o,x ∉ js∧x ∉ tl∧x ∉ ta) (hv:r∈V0.map (·.1))
  (hK:∀ m' a' w',CInv P p ops Mo sv m0 s0 w0 dd fl0 js fl al V0 s (tl.erase r) ta bs m' a' w' (listed.setIfInBounds r true)→K a' w'):wpOpIn (Wd (rdOf m0 s0)) n P ops Q r K a w:=by
 obtain ⟨ix1,ix2,ix3⟩:=idx_inv hS.ix
 obtain ⟨⟨r',v⟩,hrv,rfl⟩:=List.mem_map.1 hv
 simp only at ho hr hv hK ⊢
 have hV:∀ x∈V0,lookB ops fl0 x.1=true:=fun x hx=>hlk _ (hL.flS.subset (ix2 x.1 (List.mem_map_of_mem hx)).1)
 have hsub:∀ x∈V0.filter (fun x=>!tl.contains x.1),x∈V0:=fun x hx=>(List.mem_filter.1 hx).1
 have hin:∀ x∈V0,x.1 ∉ tl→x∈V0.filter (fun x=>!tl.contains x.1):=fun x hx h=>List.mem_filter.2 ⟨hx,by simpa using h⟩
 obtain ⟨c1,c2,c3,c4,c5,c6⟩:=putAll_fields (ops:=ops) (s:=s) (V0.filter fun x=>!tl.contains x.1)
 have c7:=putAll_vc (ops:=ops) (s:=s) (V0.filter fun x=>!tl.contains x.1)
 obtain ⟨st,h,g1,g2,g3,g4,g5⟩:=hF.f _ hrv
 have hb:=hF.hb _ g2
 obtain ⟨o2,ho2,hf⟩:=g1.ext (s':=putAll ops s (V0.filter fun x=>!tl.contains x.1)) ⟨fun nm c hc=>by rw [c4];exact hb.1 nm c (g3.1 nm c hc),fun nm c hc=>by rw [c7];exact hb.2 nm c (g3.2 nm c hc)⟩ (by rw [c2,g4]) (fun u hu=>by
  rw [g5 u hu]
  exact reads_part (hV _ hrv) hF.nd hV (fun x hx=>hL.flS.subset (ix2 x.1 (List.mem_map_of_mem hx)).1) hsub (fun x hx hxa=>hin x hx (haft x.1 (by simpa only [aftOf,ho] using hxa)).2.1) u hu)
 rw [ho] at ho2;cases ho2
 obtain ⟨o3,d,ho3,_,hd,_,_⟩:=lookB_inv (hV _ hrv)
 rw [ho] at ho3;cases ho3
 have hev:=hf (putAll ops s (V0.filter fun x=>!tl.contains x.1)) ⟨fun _ _ h=>h,fun _ _ h=>h⟩ rfl (fun _ _=>rfl) (fun s2=>∃ s1,Like s1 (putAll ops s (V0.filter fun x=>!tl.contains x.1))∧s2=s1.put o.dst v) (fun s1 h1=>⟨s1,h1,rfl⟩)
 have hrd:rdOf m (putAll ops s (V0.filter fun x=>!tl.contains x.1))=rdOf m0 s0:=by rw [← hI.rd];simp only [rdOf,c1]
 rw [← hrd]
 refine op1_soundP RegThr.none ho hI.rel ?_ hev
 rintro m4 s4 u w4 ⟨s1,hs1,rfl⟩ hR4 hst4 hrd4
 have hap:=apart_of hF.nd hV
 have hap' : Apart ops (V0.filter fun x=>!(tl.erase r').contains x.1):=fun x hx y hy=>hap x (List.mem_filter.1 hx).1 y (List.mem_filter.1 hy).1
 have hap2:Apart ops (V0.filter fun x=>!tl.contains x.1):=fun x hx y hy=>hap x (hsub x hx) y (hsub y hy)
 have hdr:dstOf ops r' = some d:=(dstOf_eq ho).trans hd
 obtain ⟨e1,e2,e3,e4,e5,e6⟩:=putAll_fields (ops:=ops) (s:=s) (V0.filter fun x=>!(tl.erase r').contains x.1)
 have e7:=putAll_vc (ops:=ops) (s:=s) (V0.filter fun x=>!(tl.erase r').contains x.1)
 have hlike:Like (putAll ops s (V0.filter fun x=>!(tl.erase r').contains x.1)) (s1.put o.dst v):=by
  rw [hd]
  refine ⟨e1.trans (hs1.rd.trans c1).symm,e2.trans (hs1.n.trans c2).symm,e3.trans (hs1.sv.trans c3).symm,e4.trans (hs1.bx.trans c4).symm,e5.trans (hs1.lp.trans c5).symm,e6.trans (hs1.ow.trans c6).symm,fun t=>?_,e7.trans (hs1.vc.trans c7).symm⟩
  simp only [Sa.put,lkT_setT',hs1.ts t]
  by_cases hdt:d=t
  ·subst hdt
   rw [if_pos rfl]
   exact lk_mem hap' (x:=(r',v)) ((filter_erase hI.tln).2 ⟨hrv,.inr rfl⟩) hdr
  ·rw [if_neg hdt]
   by_cases hex:∃ x∈V0.filter (fun x=>!tl.contains x.1),dstOf ops x.1=some t
   ·obtain ⟨x,hx,hxd⟩:=hex
    rw [lk_mem hap2 hx hxd]
    exact lk_mem hap' ((filter_erase hI.tln).2 ⟨hsub x hx,.inl (by simpa using (List.mem_filter.1 hx).2)⟩) hxd
   ·rw [lk_not (l:=V0.filter fun x=>!tl.contains x.1) (fun x hx hxd=>hex ⟨x,hx,hxd⟩)]
    refine lk_not fun x hx hxd=>?_
    rcases (filter_erase hI.tln).1 hx with ⟨hx0,h | h⟩
    ·exact hex ⟨x,hin x hx0 h,hxd⟩
    ·rw [h,hdr] at hxd;exact hdt (Option.some.inj hxd)
 have hR5:=hR4.like hlike
 have hst5:Step m (putAll ops s (V0.filter fun x=>!tl.contains x.1)) w m4 s w4:=by
  refine ⟨hst4.keeps,fun b o hb hm=>hst4.mt b o hb ?_,fun b hb hm=>hst4.lp b hb ?_,c1.symm,by rw [c3],hst4.lpm⟩
  ·rw [hd];show Mut s1.bx s1.ow m4 b o
   rw [hs1.bx,hs1.ow,c4,c6];exact hm
  ·rw [hd];show LpB s1.lp m4 b
   rw [hs1.lp,c5];exact hm
 refine hK m4 _ w4 ⟨hR5,hI.told.trans hst5,?_,put_defers.trans hI.df,?_,?_,fun q hq=>hI.tlF q (List.mem_of_mem_erase hq),hI.taA,hI.tln.erase r',hI.tan,hI.inj,?_⟩
 ·rw [← hrd,← hrd4,rdOf_put]
  simp only [rdOf,hs1.rd,c1]
 ·refine (hI.ls.set r').congr fun q=>?_
  rw [not_erase hI.tln]
  constructor
  ·rintro (⟨h1,h2,h3⟩ | rfl)
   ·exact ⟨h1,.inl h2,h3⟩
   ·exact ⟨fun h=>(hL.jf q h).1 (hL.flS.subset (hI.tlF q hr)),.inr rfl,fun h=>hL.fa q (hI.taA q h) (hL.flS.subset (hI.tlF q hr))⟩
  ·rintro ⟨h1,h2 | h2,h3⟩
   ·exact .inl ⟨h1,h2,h3⟩
   ·exact .inr h2
 ·intro q hq hx x hxa
  have up:(x ∉ js∧x ∉ tl∧x ∉ ta)→x ∉ js∧x ∉ tl.erase r' ∧ x ∉ ta:=fun h=>⟨h.1,fun he=>h.2.1 (List.mem_of_mem_erase he),h.2.2⟩
  rcases (not_erase hI.tln).1 hx.2.1 with h | h
  ·exact up (hI.clo q hq ⟨hx.1,h,hx.2.2⟩ x hxa)
  ·subst h
   exact up (haft x (by simpa only [aftOf,ho] using hxa))
 ·intro x hx hxt
  refine (((hI.alo x hx hxt).congr c4 c6 c5).step hst4 hI.rel (M':=_) (fun b o h=>h) (fun e he=>?_)).congr ?_ ?_ ?_
  ·rw [hd]
   refine getD_put_ne fun hed=>?_
   subst hed
   obtain ⟨o9,ty,d9,ho9,_,hd9,_,_,h9⟩:=allocB_inv (hL.alB x hx)
   have hne:r' ≠ x:=fun e=>hL.fa x hx (by rw [← e];exact hL.flS.subset (hI.tlF r' hr))
   rw [dstOf_eq ho9,hd9] at he
   cases he
   exact h9 r' (Array.getElem?_eq_some_iff.1 ho).1 hne e hdr rfl
  ·rw [hd];exact (hs1.bx.trans c4).symm
  ·rw [hd];exact (hs1.ow.trans c6).symm
  ·rw [hd];exact (hs1.lp.trans c5).symm
end Go.Ab
namespace Go.Ab
open Go Go.RowKit
variable {P:Program} {a:Act} {w:World} {n:Nat} {Mo:Cells} {m:Mp} {s:Sa} {p:Name} {k:Sa→Prop} {Q:Exit→Act→World→Prop} {sv:List Act} {ops:Array Oper} {kt:TypeId→V→Sa→Prop}
variable {m0:Mp} {s0:Sa} {w0:World} {dd:List Deferred} {fl0 js fl al:List Nat} {V0:List (Nat×V)} {hbs:List (Nat×Sa)} {tl ta:List Nat} {bs:Nat→Nat} {listed:Array Bool}
theorem getD_put_eq {d:Tmp} {c:Value} (h:d<a.tmps.size):(a.put (some d) c).tmps.getD d undef=c:=by
 simp only [Act.put]
 rw [Array.getD_eq_getD_getElem?,Array.getElem?_setIfInBounds_self_of_lt h,Option.getD_some]
theorem mut_lt (hR:Rel Mo m s (a::sv) w) {b o:Nat} (h:Mut s.bx s.ow m b o):b<w.heap.size:=by
 rcases h with ⟨nm,c,hl,rfl⟩ | ⟨i,hi,rfl,h1,h2⟩
 ·obtain ⟨cs,T,hb⟩:=hR.box nm c hl
  exact hb.heap.lt
 ·obtain ⟨c,T,h3,_⟩:=hR.oww i hi (show (m.ow i).2.1<(m.ow i).2.2 by omega)
  exact (Array.getElem?_eq_some_iff.1 h3).1
theorem alloc_fire {r:Nat} {K:Act→World→Prop} (hI:CInv P p ops Mo sv m0 s0 w0 dd fl0 js fl al V0 s tl ta bs m a w listed) (hS:StC P p ops fl0 js fl al V0 s) (hL:StL ops p fl0 js fl al) (hlk:∀ q∈fl0,lookB ops fl0 q=true) (hF:Facts P p ops V0 hbs s)
  (hr:r∈ta) (hK:∀ bs' m' a' w',CInv P p ops Mo sv m0 s0 w0 dd fl0 js fl al V0 s tl (ta.erase r) bs' m' a' w' (listed.setIfInBounds r true)→K a' w'):wpOpIn (Wd (rdOf m0 s0)) n P ops Q r K a w:=by
 obtain ⟨ix1,ix2,ix3⟩:=idx_inv hS.ix
 have hra:=hI.taA r hr
 obtain ⟨o,ty,d,ho,hop,hd,hg,haf,hap⟩:=allocB_inv (hL.alB r hra)
 have hdr:dstOf ops r=some d:=(dstOf_eq ho).trans hd
 have hV:∀ x∈V0,lookB ops fl0 x.1=true:=fun x hx=>hlk _ (hL.flS.subset (ix2 x.1 (List.mem_map_of_mem hx)).1)
 have hsub:∀ x∈V0.filter (fun x=>!tl.contains x.1),x∈V0:=fun x hx=>(List.mem_filter.1 hx).1
 obtain ⟨c1,c2,c3,c4,c5,c6⟩:=putAll_fields (ops:=ops) (s:=s) (V0.filter fun x=>!tl.contains x.1)
 have c7:=putAll_vc (ops:=ops) (s:=s) (V0.filter fun x=>!tl.contains x.1)
 obtain ⟨T,hT⟩:∃ T,T=putAll ops s (V0.filter fun x=>!tl.contains x.1):=⟨_,rfl⟩
 have hrel:=hI.rel
 rw [← hT] at hrel c1 c2 c3 c4 c5 c6 c7
 obtain ⟨f1,f2,f3⟩:=hS.fr r hra
 obtain ⟨z1,z2,z3⟩:=hS.zr r hra
 have hz:zOf P ops r=tzero P ty:=by simp only [zOf,ho,hop]
 have hdn:=hS.dst r hra d hdr
 have hrefs:T.refs (nmOf ops p r)=false:=by rw [hT];exact refs_putAll _ f1 fun x hx=>f3 x (hsub x hx)
 have hlook:lookN (nmOf ops p r) T.bx=none:=by rw [c4];exact f2
 obtain ⟨i,z,hi,hzv,hcz⟩:∃ i z,P.info? ty=some i∧i.zero=some z∧tzero P ty=constV z:=by
  rw [hz] at z1
  unfold tzero at z1 ⊢
  cases hi:P.info? ty with
  | none=>simp [hi,isCells] at z1
  | some i=>grind [isCells]
 have hrun:(Instr.alloc ty true (.tuple #[])).run P w = .ok (.pointer (some ⟨w.heap.size,0,none⟩)) (w.alloc (.cells z.cells ty)):=by
  simp [Instr.alloc,zeroValue,typeInfo,hi,hzv,newVar,newRow]
 have hv:RepV w (Tot (MoB Mo ((al.filter fun x=>!ta.contains x).map bs)) T.bx T.ow m) m (zOf P ops r) z:=by rw [hz,hcz];exact repV_const z
 obtain ⟨p1,p2,p3,p4,p5⟩:=zOf_pure (P:=P) (ops:=ops) r
 obtain ⟨hR2,hst2⟩:=hrel.newBox hv z1 (nmOf ops p r) (Sa.refs_protd hrefs) (Sa.refs_all hrefs) hlook (by rw [p1];simp) ty
 obtain ⟨m2,hm2⟩:∃ m2:Mp,m2={ m with bx:=fun n=>if n=nmOf ops p r then w.heap.size else m.bx n }:=⟨_,rfl⟩
 rw [← hm2] at hR2 hst2
 have hmb:m2.bx (nmOf ops p r)=w.heap.size:=by rw [hm2];exact if_pos rfl
 have hR3:=hR2.hideBox hlook
 rw [hmb] at hR3
 have hR4:=(hR3.put (dst:=some d) (v:=.dead) (c:=.pointer (some ⟨w.heap.size,0,none⟩)) (fun e he=>by cases he;rw [c2];exact hdn) .dead)
 have hTd:lkT d T.ts = .dead:=by
  rw [hT,lk_not fun x hx hxd=>?_]
  ·exact hS.dead r (.inr hra) d hdr
  ·obtain ⟨o2,d2,ho2,_,hd2,_,h2⟩:=lookB_inv (hV x (hsub x hx))
   rw [dstOf_eq ho2,hd2] at hxd
   cases hxd
   have hne:x.1≠r:=fun e=>hL.fa r hra (by rw [← e];exact hL.flS.subset (ix2 x.1 (List.mem_map_of_mem (hsub x hx))).1)
   exact (h2 r (Array.getElem?_eq_some_iff.1 ho).1 (Ne.symm hne) d hdr).1 rfl
 have hR5:Rel _ m2 T (a.put (some d) (.pointer (some ⟨w.heap.size,0,none⟩))::sv) (w.alloc (.cells z.cells ty)):=hR4.like (s':=T) ⟨rfl,rfl,rfl,rfl,rfl,rfl,fun t=>by
  simp only [Sa.put,lkT_setT']
  split
  ·rename_i e;subst e;exact hTd
  ·rfl,rfl⟩
 have hlt:∀ x∈al,x ∉ ta→bs x<w.heap.size:=fun x hx hxt=>(hI.alo x hx hxt).lt
 obtain ⟨bs',hbs'⟩:∃ bs' : Nat→Nat,bs' = fun y=>if y=r then w.heap.size else bs y:=⟨_,rfl⟩
 have hbr:bs' r=w.heap.size:=by rw [hbs'];exact if_pos rfl
 have hbn:∀ y,y≠r→bs' y=bs y:=fun y h=>by rw [hbs'];exact if_neg h
 have hmo:∀ b o,MoB Mo ((al.filter fun x=>!(ta.erase r).contains x).map bs') b o↔(MoB Mo ((al.filter fun x=>!ta.contains x).map bs) b o∨b=w.heap.size):=by
  intro b o
  simp only [MoB,List.mem_map,List.mem_filter,Bool.not_eq_true',List.contains_eq_mem,decide_eq_false_iff_not]
  constructor
  ·rintro (h | ⟨x,⟨h1,h2⟩,rfl⟩)
   ·exact .inl (.inl h)
   ·rcases (not_erase hI.tan).1 h2 with h | h
    ·have:x≠r:=fun e=>h (e ▸ hr)
     exact .inl (.inr ⟨x,⟨h1,h⟩,(hbn x this).symm⟩)
    ·subst h;exact .inr hbr
  ·rintro ((h | ⟨x,⟨h1,h2⟩,rfl⟩) | rfl)
   ·exact .inl h
   ·exact .inr ⟨x,⟨h1,(not_erase hI.tan).2 (.inl h2)⟩,hbn x fun e=>h2 (e ▸ hr)⟩
   ·exact .inr ⟨r,⟨hra,(not_erase hI.tan).2 (.inr rfl)⟩,hbr⟩
 have htot:Tot (MoB Mo ((al.filter fun x=>!(ta.erase r).contains x).map bs')) s.bx s.ow m2=Tot (MoB Mo ((al.filter fun x=>!ta.contains x).map bs)) ((nmOf ops p r,zOf P ops r)::T.bx) T.ow m2:=by
  rw [tot_hide hlook,c4,c6,hmb]
  funext b o
  exact propext (or_congr (hmo b o) Iff.rfl)
 have hstS:Step m s w m2 s (w.alloc (.cells z.cells ty)):=by
  have hml:∀ b o,Mut s.bx s.ow m2 b o→Mut ((nmOf ops p r,zOf P ops r)::T.bx) T.ow m2 b o:=by
   rintro b o (⟨nm,c,hl,e⟩ | h)
   ·refine .inl ⟨nm,c,?_,e⟩
    simp only [lookN]
    split
    ·rename_i e2;subst e2;rw [f2] at hl;cases hl
    ·rw [c4];exact hl
   ·rw [← c6] at h;exact .inr h
  have hk:=hst2.keeps
  rw [show (Mut T.bx T.ow m)=Mut s.bx s.ow m by rw [c4,c6],show LpB T.lp m=LpB s.lp m by rw [c5]] at hk
  refine ⟨hk,fun b o hb h=>?_,fun b hb h=>?_,rfl,rfl,fun l hl=>hst2.lpm l (by simpa only [rds,c1,c3] using hl)⟩
  ·have:=hst2.mt b o hb (hml b o h)
   rw [c4,c6] at this;exact this
  ·have:=hst2.lp b hb (by show LpB T.lp m2 b;rw [c5];exact h)
   rw [c5] at this;exact this
 unfold wpOpIn
 simp only [ho]
 rw [if_pos (by simp [Region.wanted,hg])]
 refine op_value (by grind) (by simp only [execOp,hop];exact execOp_v hrun) ?_
 rw [hd]
 have hsz:=hrel.cur.size
 have hdz:d<a.tmps.size:=by rw [hsz];show d<T.n;rw [c2];exact hdn
 refine hK bs' m2 _ _ ⟨?_,hI.st.trans hstS,?_,put_defers.trans hI.df,?_,?_,hI.tlF,fun x hx=>hI.taA x (List.mem_of_mem_erase hx),hI.tln,hI.tan.erase r,?_,?_⟩
 ·rw [← hT]
  exact hR5.lessMo fun b o h=>(hmo b o).1 h
 ·rw [← hI.rd];simp only [rdOf,hm2]
 ·refine (hI.ls.set r).congr fun q=>?_
  rw [not_erase hI.tan]
  constructor
  ·rintro (⟨h1,h2,h3⟩ | rfl)
   ·exact ⟨h1,h2,.inl h3⟩
   ·exact ⟨fun h=>(hL.jf q h).2.1 hra,fun h=>hL.fa q hra (hL.flS.subset (hI.tlF q h)),.inr rfl⟩
  ·rintro ⟨h1,h2,h3 | h3⟩
   ·exact .inl ⟨h1,h2,h3⟩
   ·exact .inr h3
 ·intro q hq hx x hxa
  have hqr:q≠r:=fun e=>hL.fa r hra (e ▸ hq)
  have h3:=((not_erase hI.tan).1 hx.2.2).resolve_right hqr
  have:=hI.clo q hq ⟨hx.1,hx.2.1,h3⟩ x hxa
  exact ⟨this.1,this.2.1,fun he=>this.2.2 (List.mem_of_mem_erase he)⟩
 ·intro x hx hxt y hy hyt e
  rcases (not_erase hI.tan).1 hxt with h1 | h1 <;> rcases (not_erase hI.tan).1 hyt with h2 | h2
  ·have e1:x≠r:=fun e=>h1 (e ▸ hr)
   have e2:y≠r:=fun e=>h2 (e ▸ hr)
   rw [hbn x e1,hbn y e2] at e
   exact hI.inj x hx h1 y hy h2 e
  ·have e1:x≠r:=fun e=>h1 (e ▸ hr)
   subst h2
   rw [hbn x e1,hbr] at e
   exact absurd e (Nat.ne_of_lt (hlt x hx h1))
  ·have e2:y≠r:=fun e=>h2 (e ▸ hr)
   subst h1
   rw [hbn y e2,hbr] at e
   exact absurd e.symm (Nat.ne_of_lt (hlt y hy h2))
  ·rw [h1,h2]
 ·intro x hx hxt
  rw [htot]
  rcases (not_erase hI.tan).1 hxt with h1 | h1
  ·have e1:x≠r:=fun e=>h1 (e ▸ hr)
   rw [hbn x e1]
   have ha0:=(hI.alo x hx h1).congr c4 c6 c5
   have ha1:=ha0.step (a':=a.put (some d) (.pointer (some ⟨w.heap.size,0,none⟩))) (M':=Tot (MoB Mo ((al.filter fun x=>!ta.contains x).map bs)) ((nmOf ops p r,zOf P ops r)::T.bx) T.ow m2) hst2 hrel (fun b o h=>h) (fun e he=>by
    refine getD_put_ne fun hed=>?_
    subst hed
    obtain ⟨o9,ty9,d9,ho9,_,hd9,_,_,h9⟩:=allocB_inv (hL.alB x hx)
    rw [dstOf_eq ho9,hd9] at he
    cases he
    exact h9 r (Array.getElem?_eq_some_iff.1 ho).1 (Ne.symm e1) e hdr rfl)
   refine ⟨ha1.ptr,ha1.blk,fun o ho=>?_,?_,ha1.nnew⟩
   ·have:=hstS.mt (bs x) o (hlt x hx h1) ho
    exact (hI.alo x hx h1).nmut o this
   ·intro hl;exact (hI.alo x hx h1).lpb (hstS.lp (bs x) (hlt x hx h1) hl)
  ·subst h1
   rw [hbr]
   have hvc:=(hv.mono (hst2.stab hrel) (fun n hn=>by rw [p1] at hn;cases hn) (fun n hn=>by rw [p2] at hn;cases hn) (fun n hn=>by rw [p3] at hn;cases hn) (fun n hn=>by rw [p4] at hn;cases hn):RepV _ _ m2 _ _).cells z1
   refine ⟨fun e he=>?_,⟨z.cells,ty,World.alloc_heap_new ..,hvc.1,hvc.2.1,fun i hi=>hvc.2.2 i hi⟩,fun o ho=>?_,?_,hI.st.keeps.size⟩
   ·rw [hdr] at he;cases he;exact getD_put_eq hdz
   ·have hml:Mut s.bx s.ow m w.heap.size o:=by
     rcases ho with ⟨nm,c,hl,e⟩ | h
     ·refine .inl ⟨nm,c,hl,?_⟩
      have:nm≠nmOf ops p x:=fun e=>by subst e;rw [f2] at hl;cases hl
      rw [hm2] at e;simpa only [if_neg this] using e
     ·rw [hm2] at h;exact .inr h
    have:=mut_lt hrel (b:=w.heap.size) (o:=o) (by rw [c4,c6];exact hml)
    omega
   ·rintro ⟨l,q,hl,e⟩
    obtain ⟨r1,b1,hx1⟩:=hrel.lps l q (by rw [c5];exact hl)
    have e2:m2.lp l=m.lp l:=by rw [hm2]
    have:=(Array.getElem?_eq_some_iff.1 hx1.heap).1
    rw [← e2,← e] at this
    omega
end Go.Ab
