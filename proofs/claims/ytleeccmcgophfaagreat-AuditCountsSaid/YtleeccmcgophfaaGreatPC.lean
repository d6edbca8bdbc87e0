import Derived.Test.YtleeccmcgophfaaGreatPB
import Derived.Laws.IdiomCopy
import Derived.Laws.AppendOwn
import Derived.Lib.AppendZerosOnto
set_option linter.all false
namespace Go.Ab
open Go Go.RowKit
variable {P:Program} {w:World} {n:Nat} {Mo:Cells} {m:Mp} {s:Sa} {as:List Act}
theorem ListOK.flat {M:Cells} {ys:List D} {sz:Nat} {L:List Value} (h:ListOK w M ys sz L) (hz:0<sz) (j:Nat) (hj:j<(flatD ys).length):RepD w M (flatD ys)[j] (L.getD j undef):=by
 have hg:=flatD_get hz h.row j
 rw [List.getElem?_eq_getElem hj] at hg
 have hj' : j<ys.length * sz:=by rw [← flatD_len h.row];exact hj
 have h1:j / sz<ys.length:=by rw [Nat.div_lt_iff_lt_mul hz];exact hj'
 have h2:=Nat.mod_lt j hz
 rw [List.getElem?_eq_getElem h1,Option.bind_some,List.getElem?_eq_getElem (by rw [h.row _ (List.getElem_mem h1)];exact h2),Option.some.injEq] at hg
 rw [hg]
 have:=h.rep (j / sz) h1 (j % sz) (by rw [h.row _ (List.getElem_mem h1)];exact h2)
 rw [show j / sz * sz+j % sz=j from by rw [Nat.mul_comm];exact Nat.div_add_mod j sz] at this
 exact this
theorem VecOK.list {M:Cells} {nm:Name} {sz:Nat} {xs:List D} (h:VecOK w M m nm sz xs) :
  ∃ L:List Value,L.length=xs.length * sz∧(∀ v∈L,leaf v=true)∧(∀ j (hj:j<(flatD xs).length),RepD w M (flatD xs)[j] (L.getD j undef)) ∧
   (∀ j,j<L.length→w.cell? ⟨(m.ow nm).1,(m.ow nm).2.1+j,none⟩=some (L.getD j undef)) ∧
   ∀ w' : World,w'.heap=w.heap→(Builtin.firstCells sz xs.length (.slice (m.vl nm).1 (m.vl nm).2.1 (m.vl nm).2.2)).run P w' = .ok L.toArray w':=by
 refine ⟨(List.range (xs.length * sz)).map fun q=>(w.cell? ⟨(m.ow nm).1,(m.ow nm).2.1+q,none⟩).getD undef,by simp,?_,?_,?_,?_⟩
 ·intro v hv
  obtain ⟨q,hq,rfl⟩:=List.mem_map.1 hv
  obtain ⟨u,h1,h2,_⟩:=h.cells q (by rw [flatD_len h.sz];grind)
  grind
 ·intro j hj
  obtain ⟨u,h1,_,h3⟩:=h.cells j hj
  rw [List.getD_eq_getElem?_getD,List.getElem?_map,List.getElem?_range (by rw [flatD_len h.sz] at hj;grind)]
  grind
 ·intro j hj
  have hj:j<xs.length * sz:=by grind
  obtain ⟨u,h1,_⟩:=h.cells j (by rw [flatD_len h.sz];grind)
  grind
 ·intro w' hw'
  rcases h.hd with hd | ⟨b,c,T,e,h2,_⟩
  ·have:xs=[]:=List.eq_nil_of_length_eq_zero (by have:=h.cap;omega)
   subst this
   cases (m.vl nm).1 with
   | none=>simp [Builtin.firstCells]
   | some a =>
    grind [Builtin.firstCells,run_loadCells]
  ·rw [e]
   simp only [Builtin.firstCells]
   refine run_loadCells w' _ _ _ (fun q hq=>?_)
   obtain ⟨u,h3,_⟩:=h.cells q (by rw [flatD_len h.sz];grind)
   grind [addr_add,World.cell?_of_block]
theorem getD_app_l {a b:List Value} {q:Nat} (h:q<a.length):(a++b).getD q undef=a.getD q undef:=by
 grind
theorem getD_app_r {a b:List Value} {q:Nat} (h:a.length≤q):(a++b).getD q undef=b.getD (q - a.length) undef:=by
 grind
theorem flatD_app (xs ys:List D):flatD (xs++ys)=flatD xs++flatD ys:=by simp [flatD]
theorem flat_rep_app {M:Cells} {xs ys:List D} {L R:List Value} (hl:L.length=(flatD xs).length) (h1:∀ j (hj:j<(flatD xs).length),RepD w M (flatD xs)[j] (L.getD j undef))
  (h2:∀ j (hj:j<(flatD ys).length),RepD w M (flatD ys)[j] (R.getD j undef)) (j:Nat) (hj:j<(flatD (xs++ys)).length):RepD w M (flatD (xs++ys))[j] ((L++R).getD j undef):=by
 grind [flatD_app]
theorem vec_append {t u e ty:TypeId} {ts:Array TypeId} {args:Array Value} {y:Value} {nm:Name} {xs ys:List D} (hR:Rel Mo m s as w) (hc:lookN nm s.vc=some (tsz P e,xs))
  (ht:ts[0]? = some t) (hu:ts[1]? = some u) (hut:P.underlying t=some (.slice e)) (huu:P.underlying u=some (.slice e)) (hez:tsz P e≠0)
  (hzc:isCells (tzero P e)=true) (hzl:(tzero P e).cells.length=tsz P e)
  (h0:args[0]? = some (.slice (m.vl nm).1 (m.vl nm).2.1 (m.vl nm).2.2)) (h1:args[1]? = some y)
  (hy:RepD w (Tot Mo s.bx s.ow m) (.sl ys) y) (hyr:∀ x∈ys,x.cells.length=tsz P e)
  (hb:(xs.length+ys.length) * tbytes P e≤140737488355328) (hmx:xs.length+ys.length≤9223372036854775807) :
  ∃ m' v w',(Builtin.append_ ts ty args).run P w = .ok v w' ∧ Rel Mo m' (s.vturn nm (tsz P e) (xs++ys)) as w' ∧ (∀ M,RepV w' M m' (.vsl nm) v)∧Step m s w m' (s.vturn nm (tsz P e) (xs++ys)) w' ∧ m'.lp=m.lp:=by
 obtain ⟨zi,z,hzi,hzz,hzcv⟩:=tzero_inv hzc
 have hzs:z.cells.size=tsz P e:=by
  have:=(repV_const (w:=w) (M:=fun _ _=>False) (m:=m) z).csOK (by grind)
  rw [this.size,← hzcv];grind
 have hz0:0<tsz P e:=Nat.pos_of_ne_zero hez
 obtain ⟨hn,hvec⟩:=hR.vec nm _ hc
 simp only at hvec
 have hvl:=hvec.len
 have hcapv:=hvec.cap
 have hlenof:(Builtin.lenOf y).run P w = .ok ys.length w:=by
  obtain ⟨_,_,_,_,_,_,e',_⟩:=hy.sl_inv
  rw [e'];rfl
 obtain ⟨old,ol,oleaf,orep,ocell,hold⟩:=hvec.list (P:=P)
 obtain ⟨L,hnew,oky,_⟩:=run_firstCells (P:=P) hy hyr hez
 have hLl:=oky.len
 have hadd:(xs.length+ys.length) * tsz P e=xs.length * tsz P e+ys.length * tsz P e:=Nat.add_mul _ _ _
 have hsz:∀ x∈xs++ys,x.cells.length=tsz P e:=fun x hx=>(List.mem_append.1 hx).elim (hvec.sz x) (hyr x)
 have hfl:∀ j,j<(flatD (xs++ys)).length→j<(old++L).length:=fun j hj=>by
  grind [flatD_len,List.length_append]
 have hrep:∀ j (hj:j<(flatD (xs++ys)).length),leaf ((old++L).getD j undef)=true∧RepD w (Tot Mo s.bx s.ow m) (flatD (xs++ys))[j] ((old++L).getD j undef):=fun j hj=>by
  refine ⟨?_,flat_rep_app (by rw [ol,flatD_len hvec.sz]) orep (oky.flat hz0) j hj⟩
  have:=hfl j hj
  rw [List.getD_eq_getElem?_getD,List.getElem?_eq_getElem this,Option.getD_some]
  rcases List.mem_append.1 (List.getElem_mem this) with h | h
  ·exact oleaf _ h
  ·exact oky.leafs _ h
 have happ:=run_append (P:=P) (ty:=ty) (L:=L) (old:=old) (base:=(m.vl nm).1) (len:=xs.length) (cap:=(m.vl nm).2.2) ht hu hut huu hez ⟨zi,hzi,hzz⟩ (by rw [← hvl];exact h0) h1 hlenof hb hmx hnew (by rw [← hvl];rw [hvl] at hold ⊢; exact hold) (by
  intro hcc ad had
  rcases hvec.hd with hd | ⟨b,c,T,h1',_,hblk,hszb⟩
  ·have hL0:L=[]:=List.eq_nil_of_length_eq_zero (by
    rw [oky.len,show ys.length=0 from by omega];simp)
   rw [hL0];simp [storeCells,putCells]
  ·rw [had] at h1'
   cases h1'
   rw [addr_add]
   have:=run_storeCells (P:=P) L oky.leafs w b (0+xs.length * tsz P e) 0 c T hblk (by
    rw [oky.len,Nat.add_zero,Nat.add_assoc,← Nat.add_mul]
    have:(xs.length+ys.length) * tsz P e≤(m.vl nm).2.2 * tsz P e:=Nat.mul_le_mul_right _ hcc
    omega)
   simpa using this)
 rcases happ with ⟨hcc,hrun⟩ | ⟨hcc,nc,rest,⟨hnc,hncm⟩,hrun,hrest⟩
 ·rcases hvec.hd with hd | ⟨b,c,T,hb1,hrow,hblk,hszb⟩
  ·have hx0:xs=[]:=List.eq_nil_of_length_eq_zero (by omega)
   have hy0:ys=[]:=List.eq_nil_of_length_eq_zero (by omega)
   subst hx0;subst hy0
   have hL0:L=[]:=List.eq_nil_of_length_eq_zero (by rw [oky.len];simp)
   subst hL0
   have hrun' : (Builtin.append_ ts ty args).run P w = .ok (.slice (m.vl nm).1 0 (m.vl nm).2.2) w:=by
    rw [hrun]
    cases (m.vl nm).1 <;> rfl
   obtain ⟨r1,r2⟩:=hR.vecTurn nm (0,0,0) (0,0,0) ((m.vl nm).1,0,(m.vl nm).2.2) (tsz P e) ([]++[]) (w':=w) (fun h=>by simp [nonempty] at h) ⟨rfl,rfl,rfl,Nat.le_refl _⟩ (fun _ _ _=>rfl) (fun h=>by simp [nonempty] at h) (fun h=>by simp [nonempty] at h)
    (.inl ⟨hd.1,rfl⟩) rfl (by simp) hvec.capm (by simp) (by simp) (fun j hj=>by simp [flatD] at hj)
   refine ⟨_,_,_,hrun',r1,fun M=>?_,r2,rfl⟩
   have:=@RepV.vsl w M (m.vturn nm (0,0,0) ((m.vl nm).1,0,(m.vl nm).2.2)) nm
   simpa [Mp.vturn] using this
  ·rw [hb1] at hrun
   simp only [Nat.zero_add] at hrun
   have hcapm:(xs.length+ys.length) * tsz P e≤(m.vl nm).2.2 * tsz P e:=Nat.mul_le_mul_right _ hcc
   obtain ⟨c',q1,q2,q3,q4,q5,q6,q7,q8,q9⟩:=putCells_spec L w b (xs.length * tsz P e) c T hblk (by omega)
   obtain ⟨r1,r2⟩:=hR.vecTurn nm (m.ow nm) (m.ow nm) (some ⟨b,0,none⟩,xs.length+ys.length,(m.vl nm).2.2) (tsz P e) (xs++ys) (w':=putCells w b (xs.length * tsz P e) L) (fun _=>⟨hn,rfl⟩) ⟨q6,q7,q8,by rw [q9];exact Nat.le_refl _⟩
    (fun b' _ hne=>by
     by_cases e' : b' = b
     ·by_cases hL:L=[]
      ·subst hL;rfl
      ·have hpos:0<L.length:=List.length_pos_iff.2 hL
       exact absurd (by rw [hrow];exact e') (hne (by rw [hrow];simp only [nonempty];omega))
     ·exact q5 b' e') (fun _ c0 T0 h0=>by
     rw [hrow] at h0 ⊢
     simp only at h0 ⊢
     rw [hblk] at h0;cases h0
     refine ⟨c',q1,q2,fun o ho=>q3 o ?_⟩
     rcases ho with ho | ho
     ·left;omega
     ·right;omega) (fun _=>.inl rfl) (.inr ⟨b,c',T,rfl,hrow,q1,by rw [q2];exact hszb⟩) (by simp) (by simpa using hcc) hvec.capm (by simpa using hmx) hsz (fun j hj=>by
     obtain ⟨g1,g2⟩:=hrep j hj
     refine ⟨_,?_,g1,g2⟩
     have hjl:=hfl j hj
     rw [List.length_append] at hjl
     rw [hrow]
     simp only [Nat.zero_add]
     rw [cell_of_block q1]
     by_cases h:j<old.length
     ·rw [q3 _ (by left;omega),← cell_of_block hblk,getD_app_l h]
      have:=ocell j h
      rw [hrow] at this
      simpa using this
     ·have h4:=q4 (j - old.length) (by omega)
      rw [show xs.length * tsz P e+(j - old.length)=j from by omega] at h4
      rw [h4,getD_app_r (by omega),List.getD_eq_getElem?_getD,List.getElem?_eq_getElem (by omega)];rfl)
   refine ⟨_,_,_,hrun,r1,fun M=>?_,r2,rfl⟩
   have:=@RepV.vsl (putCells w b (xs.length * tsz P e) L) M (m.vturn nm (m.ow nm) (some ⟨b,0,none⟩,xs.length+ys.length,(m.vl nm).2.2)) nm
   simpa [Mp.vturn] using this
 ·have hbl:Below w.heap.size w (w.drew.alloc (.cells (old.toArray++L.toArray++rest) e)):=((Below.refl _ w).drew).alloc (Nat.le_refl _) _
  have hnewb:(w.drew.alloc (.cells (old.toArray++L.toArray++rest) e)).heap[w.heap.size]? = some (.cells (old.toArray++L.toArray++rest) e (0,0)):=World.alloc_heap_new w.drew _
  have hnn:(nc - (xs.length+ys.length)) * tsz P e+(xs.length+ys.length) * tsz P e=nc * tsz P e:=by rw [← Nat.add_mul];congr 1;omega
  rw [hzs] at hrest
  have hsize:(old.toArray++L.toArray++rest).size=nc * tsz P e:=by simp;omega
  obtain ⟨r1,r2⟩:=hR.vecTurn nm (0,0,0) (w.heap.size,0,nc * tsz P e) (some ⟨w.heap.size,0,none⟩,xs.length+ys.length,nc) (tsz P e) (xs++ys) (w':=w.drew.alloc (.cells (old.toArray++L.toArray++rest) e)) (fun h=>by simp [nonempty] at h)
   ⟨hbl.os,hbl.tape,hbl.output,hbl.size⟩ (fun b hb' _=>hbl.block b hb') (fun h=>by simp [nonempty] at h) (fun _=>.inr (Nat.le_refl _)) (.inr ⟨w.heap.size,_,e,rfl,rfl,hnewb,by simp only;omega⟩) (by simp) (by simpa using hnc) hncm (by simpa using hmx) hsz (fun j hj=>by
    obtain ⟨g1,g2⟩:=hrep j hj
    refine ⟨_,?_,g1,g2⟩
    have hjl:=hfl j hj
    simp only [Nat.zero_add]
    rw [cell_of_block hnewb,Array.getElem?_append_left (by simpa using hjl),List.getD_eq_getElem?_getD,List.getElem?_eq_getElem hjl]
    rw [show old.toArray++L.toArray=(old++L).toArray from by simp]
    simp only [List.getElem?_toArray,Option.getD_some]
    exact List.getElem?_eq_getElem hjl)
  refine ⟨_,_,_,hrun,r1,fun M=>?_,r2,rfl⟩
  have:=@RepV.vsl (w.drew.alloc (.cells (old.toArray++L.toArray++rest) e)) M (m.vturn nm (w.heap.size,0,nc * tsz P e) (some ⟨w.heap.size,0,none⟩,xs.length+ys.length,nc)) nm
  simpa [Mp.vturn] using this
end Go.Ab
namespace Go.Ab
open Go Go.RowKit
variable {P:Program} {o:Oper} {a:Act} {w:World} {K:Act→World→Prop} {Q:Exit→Act→World→Prop} {n:Nat} {Mo:Cells} {m:Mp} {s:Sa} {sv:List Act} {k:Sa→Prop} {p:Name} {S:Sems}
theorem op_append (hR:Rel Mo m s (a::sv) w) (hd:∀ d,o.dst=some d→d<s.n) (hK:OpNext Mo m s o.dst a sv w k K) (h:evOp P S p o s k)
  {c:Call} (hop:o.op = .call c) (hc:c.callee = .builtin .append):o.wpIn (Wd (rdOf m s)) n P a w K Q:=by
 simp only [evOp,hop,hc] at h
 split at h
 ·rename_i x y t u ts hargs htys
  obtain ⟨ha1,ha2⟩:=args_inv hargs
  simp only [List.length_cons,List.length_nil] at ha1
  have h0:=ha2 0 (by omega) (by simp)
  have h1:=ha2 1 (by omega) (by simp)
  simp only [List.getElem_cons_zero,List.getElem_cons_succ] at h0 h1
  have v0:=hR.operand (c.args[0]'(by omega))
  have v1:=hR.operand (c.args[1]'(by omega))
  rw [h0] at v0
  rw [h1] at v1
  have ht0:c.argTypes[0]? = some t:=by rw [← Array.getElem?_toList,htys];rfl
  have hu0:c.argTypes[1]? = some u:=by rw [← Array.getElem?_toList,htys];rfl
  have harg0:(c.args.map a.eval)[0]? = some (a.eval (c.args[0]'(by omega))):=by
   grind
  have harg1:(c.args.map a.eval)[1]? = some (a.eval (c.args[1]'(by omega))):=by
   grind
  split at h
  ·rename_i e ys he hys
   obtain ⟨hue,hez,hzc,hzl,hyr,h⟩:=h
   have hy:=v1.slice hys
   split at h
   ·rename_i i sz xs
    obtain ⟨hi,rfl,hb,hmx,h⟩:=h
    cases v0 with
    | own hx hxr hsp =>
     obtain ⟨ad,cap,_,_,_,_,ec,_⟩:=hx.sl_inv
     rw [ec] at hx hsp
     rw [ec] at harg0
     obtain ⟨m',v,w',hrun,hR',hv,hst,hlp⟩:=append_core (ty:=o.type) hR i xs ys ad cap _ ht0 hu0 (telem_inv he) (telem_inv hue) hez hzc hzl harg0 harg1 hx hxr (.inl ⟨hi,hsp⟩) hy hyr hb hmx
     exact op_value (by grind) (run_builtin hop hc rfl hrun) (next_put' hK hR' hd hst (by grind [rdOf,Sa.strip]) hv h)
   ·obtain ⟨hb,hmx,h⟩:=h
    have ec:a.eval c.args[0] = .slice none 0 0:=v0.nil_inv
    rw [ec] at harg0
    obtain ⟨m',v,w',hrun,hR',hv,hst,hlp⟩:=append_core (ty:=o.type) (xs:=[]) hR (o.dst.getD 0::p) ys none 0 _ ht0 hu0 (telem_inv he) (telem_inv hue) hez hzc hzl harg0 harg1 repD_nil (by simp) (.inr ⟨rfl,rfl⟩) hy hyr (by grind) (by grind)
    exact op_value (by grind) (run_builtin hop hc rfl hrun) (next_put' hK hR' hd hst (by grind [rdOf,Sa.strip]) hv h)
   ·rename_i nm
    split at h
    ·rename_i c hvc
     obtain ⟨hce,hb,hmx,h⟩:=h
     obtain ⟨csz,xs⟩:=c
     simp only at hce hb hmx h
     subst hce
     have ec:=v0.vsl_inv
     rw [ec] at harg0
     obtain ⟨m',v,w',hrun,hR',hv,hst,hlp⟩:=vec_append (ty:=o.type) hR hvc ht0 hu0 (telem_inv he) (telem_inv hue) hez hzc hzl harg0 harg1 hy hyr hb hmx
     exact op_value (by simp [hop]) (run_builtin hop hc rfl hrun) (next_put' hK hR' hd hst (by simp only [rdOf,Sa.vturn,Sa.strip,hlp]) (hv _) h)
    ·exact h.elim
   grind
  grind
 grind
end Go.Ab
namespace Go.Ab
open Go Go.RowKit
variable {P:Program} {o:Oper} {a:Act} {w:World} {K:Act→World→Prop} {Q:Exit→Act→World→Prop} {n:Nat} {Mo:Cells} {m:Mp} {s:Sa} {sv:List Act} {k:Sa→Prop} {p:Name}
theorem argsOK_ops {as:List Act} (hR:Rel Mo m s (a::as) w) (l:List Operand):ArgsOK w (Tot Mo s.bx s.ow m) m (l.map s.get) (l.map a.eval).toArray :=
 ⟨by simp,fun i hi=>by
  simp only [List.length_map] at hi
  simp only [List.getElem_map,Array.getD_eq_getD_getElem?,List.getElem?_toArray,List.getElem?_map,List.getElem?_eq_getElem hi,Option.map_some,Option.getD_some]
  exact hR.operand _⟩
theorem ArgsOK.append {M:Cells} {l1 l2:List V} {v1 v2:Array Value} (h1:ArgsOK w M m l1 v1) (h2:ArgsOK w M m l2 v2):ArgsOK w M m (l1++l2) (v1++v2):=by
 refine ⟨by simp [h1.1,h2.1],fun i hi=>?_⟩
 by_cases h:i<l1.length
 ·have:=h1.2 i h
  rw [List.getElem_append_left h]
  rw [Array.getD_eq_getD_getElem?] at this ⊢
  rw [Array.getElem?_append_left (by rw [h1.1];exact h)];exact this
 ·have:=h2.2 (i - l1.length) (by simp at hi;omega)
  rw [List.getElem_append_right (by omega)]
  rw [Array.getD_eq_getD_getElem?] at this ⊢
  rw [Array.getElem?_append_right (by rw [h1.1];omega),h1.1];exact this
theorem callable_inv {g:FuncId} (h:callable P g=true):∃ fn,P.funcs[g]? = some fn∧fn.body.isSome=true∧fn.name ≠ "runtime.NumGoroutine" := by
 unfold callable at h
 split at h
 ·rename_i fn hfn
  simp only [Bool.and_eq_true,bne_iff_ne] at h
  exact ⟨fn,hfn,h.1.1,h.1.2⟩
 ·cases h
theorem callable_lt {g:FuncId} (h:callable P g=true):g<fnB:=by
 unfold callable at h
 split at h
 ·simp only [Bool.and_eq_true] at h
  exact Nat.le_of_ble_eq_true h.2
 ·cases h
theorem run_callFunc {g:FuncId} (h:callable P g=true) (args:Array Value):(callFunc g args).run P w = .ok (.enter g args) w:=by
 obtain ⟨fn,h1,h2,h3⟩:=callable_inv h
 have h4:fn.body≠none:=by intro e;simp [e] at h2
 unfold callFunc
 simp only [Sem.run_bind,run_program,Result.andThen_ok,h1]
 simp [h3,h4]
theorem depth_none {r:Option Nat} {n:Nat}:(Wd r).depth.isSome=true→1≤n:=by intro h;cases h
def RegThr (Mo:Cells) (m:Mp) (s:Sa) (ds:List Deferred) (sv:List Act) (w:World) (kt:TypeId→V→Sa→Prop) (Q:Exit→Act→World→Prop):Prop :=
 ∀ t v c m' s' a' w',kt t v s' → Rel Mo m' s' (a' :: sv) w' → RepV w' (Tot Mo s'.bx s'.ow m') m' v c→Step m s w m' s' w' → rdOf m' s' = rdOf m s→a'.defers=ds→Q (.panic (panicOf t c)) a' w'
theorem RegThr.none {ds:List Deferred}:RegThr Mo m s ds sv w noThr Q:=fun _ _ _ _ _ _ _ h=>h.elim
theorem RegThr.step {ds:List Deferred} {kt:TypeId→V→Sa→Prop} {m' : Mp} {s' : Sa} {w' : World} (h:RegThr Mo m s ds sv w kt Q) (hs:Step m s w m' s' w') (hr:rdOf m' s' = rdOf m s):RegThr Mo m' s' ds sv w' kt Q :=
 fun t v c m2 s2 a2 w2 hk hR hv hs2 hr2 hd=>h t v c m2 s2 a2 w2 hk hR hv (hs.trans hs2) (hr2.trans hr) hd
variable {kt:TypeId→V→Sa→Prop}
theorem op_enter (hR:Rel Mo m s (a::sv) w) (hT:RegThr Mo m s a.defers sv w kt Q) (hK:OpNext Mo m s o.dst a sv w k K) {c:Call} (hop:o.op = .call c) {g:FuncId} {args:List V} {vs:Array Value}
  (hrun:(execOp a.eval o).run P w = .ok (.enter g vs) w) (hargs:ArgsOK w (Tot Mo s.bx s.ow m) m args vs) {q:Name}
  (h:TCallT P kt q g args s fun v s'=>(∀ d,o.dst=some d→d<s'.n)∧k (s'.put o.dst v)):o.wpIn (Wd (rdOf m s)) n P a w K Q:=by
 refine ⟨fun _ _=>trivial,?_⟩
 rw [show (Wd (rdOf m s)).round=rdOf m s from rfl,Oper.semAt_eq (rdOf m s) a.eval o (fun d=>by rw [hop];exact fun e=>by cases e),hrun]
 refine ⟨depth_none,(h Mo m (a::sv) w (n - 1) vs (rdOf m s) hR hargs).mono ?_⟩
 rintro e w' (⟨c',v,m',s',rfl,⟨hn,hk⟩,hR',hv,hst,hrd⟩ | ⟨t,c',v,m',s',rfl,hk,hR',hv,hst,hrd⟩)
 ·exact next_put' hK hR' hn hst hrd hv hk
 ·exact hT t v c' m' s' a w' hk hR' hv hst hrd rfl
theorem runB {c:Call} {f:Operand} {cs:Array Value} {g' : FuncId} (hop:o.op = .call c) (hc:c.callee = .value f) (e:a.eval f = .func (.func g') cs #[]) (hcal:callable P g' = true):(execOp a.eval o).run P w = .ok (.enter g' (cs++c.args.map a.eval)) w:=by
 simp only [execOp,hop,resolve,hc,e,Deferred.ofValue,Sem.run_bind,Sem.run_pure,Result.andThen_ok,invoke,run_callFunc hcal]
 simp
theorem op_call (hR:Rel Mo m s (a::sv) w) (hT:RegThr Mo m s a.defers sv w kt Q) (hK:OpNext Mo m s o.dst a sv w k K) (h:evOp P (semsT P kt) p o s k)
  {c:Call} (hop:o.op = .call c) {f:Operand} (hc:c.callee = .value f):o.wpIn (Wd (rdOf m s)) n P a w K Q:=by
 simp only [evOp,hop,hc] at h
 have hf:=hR.operand f
 have hargs:=argsOK_ops hR c.args.toList
 have hca:(c.args.toList.map a.eval).toArray=c.args.map a.eval:=by apply Array.ext'; rw [List.toList_toArray,Array.toList_map]
 rw [hca] at hargs
 split at h
 ·rename_i g x y hg
  obtain ⟨hcal,h⟩:=h
  rw [hg] at hf
  obtain ⟨e,hok⟩:=hf.val
  simp only [okLeaf] at hok
  obtain ⟨rfl,rfl⟩:=hok
  refine op_enter (q:=[]) hR hT hK hop ?_ hargs h
  simp only [execOp,hop,resolve,hc,e,Deferred.ofValue,Sem.run_bind,Sem.run_pure,Result.andThen_ok,invoke,run_callFunc hcal]
  simp
 ·rename_i g cap hg
  rw [hg] at hf
  obtain ⟨cs,e,hs,hrep⟩:=hf.fn_inv
  split at h
  ·rename_i hlt
   obtain ⟨hcal,h⟩:=h
   rw [fnV_lt hlt] at e
   refine op_enter (q:=[]) hR hT hK hop ?_ (hargs.append ⟨hs,hrep⟩) h
   simp only [execOp,hop,resolve,hc,e,Deferred.ofValue,Sem.run_bind,Sem.run_pure,Result.andThen_ok,invoke,run_callFunc hcal]
   simp
  ·rename_i hlt
   obtain ⟨hcal,h⟩:=h
   rw [fnV_ge hlt] at e
   exact op_enter (q:=[]) hR hT hK hop (runB hop hc e hcal) (ArgsOK.append ⟨hs,hrep⟩ hargs) h
 ·rename_i l hg
  rw [hg] at hf
  have e:=hf.yld_inv
  obtain ⟨rec,hrec,hsz,hround⟩:=h Mo m (a::sv) w (n - 1) _ (rdOf m s) hR hargs
  refine ⟨fun _ _=>trivial,?_⟩
  have hrun:(execOp a.eval o).run P w = .ok (.round (m.lp l) rec.fn ((rec.params.zip (c.args.map a.eval)).foldl (fun tmps (t,a)=>tmps.setIfInBounds t a) rec.tmps) rec.assign rec.body) w:=by
   simp only [execOp,hop,resolve,hc,e,Deferred.ofValue,Sem.run_bind,Sem.run_pure,Result.andThen_ok,invoke]
   have:=run_yield (P:=P) hrec hsz
   simpa using this
  rw [show (Wd (rdOf m s)).round=rdOf m s from rfl,Oper.semAt_eq (rdOf m s) a.eval o (fun d=>by rw [hop];exact fun e=>by cases e),hrun]
  refine ⟨depth_none,hround.mono ?_⟩
  rintro e w' ⟨c',v,m',s',rfl,⟨hn,hk⟩,hR',hv,hst,hrd⟩
  exact next_put' hK hR' hn hst hrd hv hk
 ·exact h.elim
theorem evOp_sound (hR:Rel Mo m s (a::sv) w) (hT:RegThr Mo m s a.defers sv w kt Q) (hd:∀ d,o.dst=some d→d<s.n) (hK:OpNext Mo m s o.dst a sv w k K) (h:evOp P (semsT P kt) p o s k):o.wpIn (Wd (rdOf m s)) n P a w K Q:=by
 cases hop:o.op with
 | move x=>exact op_move hR hd hK h hop
 | assign x=>exact op_assign hR hd hK h hop
 | pick c x y=>exact op_pick hR hd hK h hop
 | alloc t=>exact op_alloc hR hd hK h hop
 | box t x=>exact op_box hR hd hK h hop
 | build t ps=>exact op_build hR hd hK h hop
 | buildSlice t l ps=>exact op_buildSlice hR hd hK h hop
 | load t x=>exact op_load hR hd hK h hop
 | store t x y=>exact op_store hR hd hK h hop
 | nilCheck x=>exact op_nilCheck hR hd hK h hop
 | binOp op t x y u=>exact op_binOp hR hd hK h hop
 | unOp op t x=>exact op_unOp hR hd hK h hop
 | convert t u x=>exact op_convert hR hd hK h hop
 | makeFunc fn fi ca =>
  cases fn with
  | func f=>exact op_makeFunc hR hd hK h hop
  | _=>simp [evOp,hop] at h
 | slice t x lo hi mx =>
  cases mx with
  | none=>exact op_slice hR hd hK h hop
  | some y=>simp [evOp,hop] at h
 | fieldAddr t x i=>exact op_fieldAddr hR hd hK h hop
 | field t x i=>exact op_field hR hd hK h hop
 | index t x ix=>exact op_index hR hd hK h hop
 | indexAddr t x i=>exact op_indexAddr hR hd hK h hop
 | extract x i=>exact op_extract hR hd hK h hop
 | makeMap t r =>
  cases r with
  | none=>exact op_makeMap hR hd hK h hop
  | some y=>simp [evOp,hop] at h
 | mapUpdate t x y z=>exact op_mapUpdate hR hd hK h hop
 | lookup t x y ok=>exact op_lookup hR hd hK h hop
 | call c =>
  cases hc:c.callee with
  | value f=>exact op_call hR hT hK h hop hc
  | invoke r nm=>simp [evOp,hop,hc] at h
  | builtin b =>
   cases b with
   | len=>exact op_len hR hd hK h hop hc
   | append=>exact op_append hR hd hK h hop hc
   | max=>exact op_maxmin hR hd hK h hop hc (.inl rfl)
   | min=>exact op_maxmin hR hd hK h hop hc (.inr rfl)
   | _=>simp [evOp,hop,hc] at h
 | _=>simp [evOp,hop] at h
end Go.Ab
namespace Go.Ab
open Go Go.RowKit
variable {P:Program} {a:Act} {w:World} {Q:Exit→Act→World→Prop} {n:Nat} {Mo:Cells} {m:Mp} {s:Sa} {sv:List Act} {k:Sa→Prop} {p:Name}
theorem rep_undef {M:Cells}:RepV w M m (.tup []) undef:=.tup (vs:=#[]) rfl (fun i hi=>by simp at hi)
theorem put_same {t:Nat} {c:Value} (h:a.tmps.getD t undef=c):a.put (some t) c=a:=by
 unfold Act.put
 simp only
 congr 1
 apply Array.ext
 ·simp
 ·intro i h1 h2
  rw [Array.getElem_setIfInBounds]
  split
  ·rename_i e;subst e
   rw [← h,Array.getD_eq_getD_getElem?,Array.getElem?_eq_getElem h2];rfl
  ·rfl
theorem Rel.literal {t:Nat} {b:Bool} (hR:Rel Mo m s (a::sv) w) (hl:lkT t s.ts = .d (.v (.bool b))):Rel Mo m (s.put (some t) (.d (.v (.bool b)))) (a::sv) w:=by
 have h:=hR.get t
 rw [hl] at h
 have e:=h.val.1
 have hlt:t<s.n:=by
  have hsz:a.tmps.size=s.n:=hR.cur.size
  rw [← hsz]
  by_cases hx:t<a.tmps.size
  ·exact hx
  ·exfalso
   rw [Array.getD_eq_getD_getElem?,Array.getElem?_eq_none (by omega)] at e
   simp [undef] at e
 have:=hR.put (dst:=some t) (v:=.d (.v (.bool b))) (c:=.bool b) (fun d hd=>by cases hd;exact hlt) (.d (.v trivial))
 rw [put_same e] at this;exact this
def RegNext (Mo:Cells) (m:Mp) (s:Sa) (ds:List Deferred) (sv:List Act) (w:World) (k:Sa→Prop) (Q:Exit→Act→World→Prop):Prop :=
 ∀ m' s' a' w',k s' → Rel Mo m' s' (a' :: sv) w' → Step m s w m' s' w' → rdOf m' s' = rdOf m s→a'.defers=ds→Q .normal a' w'
theorem RegNext.step {ds:List Deferred} {m' : Mp} {s' : Sa} {w' : World} (h:RegNext Mo m s ds sv w k Q) (hs:Step m s w m' s' w') (hr:rdOf m' s' = rdOf m s):RegNext Mo m' s' ds sv w' k Q :=
 fun m2 s2 a2 w2 hk hR hs2 hr2 hd=>h m2 s2 a2 w2 hk hR (hs.trans hs2) (hr2.trans hr) hd
theorem put_defers {d:Option Tmp} {c:Value}:(a.put d c).defers=a.defers:=by cases d <;> rfl
theorem yielded_bool {ops:Array Oper} {j t:Nat} {b:Bool} (hj:(ops[j]?).bind (·.dst)=some t) (h:a.tmps.getD t undef = .bool b):yielded ops a.tmps j=some b:=by
 unfold yielded
 rw [hj]
 rw [Array.getD_eq_getD_getElem?] at h
 cases hx:a.tmps[t]? with
 | none=>rw [hx] at h;simp [undef] at h
 | some c=>rw [hx] at h;simp at h;subst h;simp [hx]
theorem yielded_undef {ops:Array Oper} {j t:Nat} (hj:(ops[j]?).bind (·.dst)=some t) (h:a.tmps.getD t undef = .tuple #[]):yielded ops a.tmps j=none:=by
 unfold yielded
 rw [hj]
 rw [Array.getD_eq_getD_getElem?] at h
 cases hx:a.tmps[t]? with
 | none=>simp [hx]
 | some c=>rw [hx] at h;simp at h;subst h;simp [hx]
theorem thrOp_inv {o:Oper} {os:List Oper} {t:TypeId} {x:Operand} (h:thrOp P o os=some (t,x)) :
  ∃ d o2 os',o.op = .makeInterface t x∧o.guard=none∧o.dst=some d∧os=o2::os' ∧ o2.op = .panic (.tmp d)∧o2.guard=none∧tagg P t=some true:=by
 unfold thrOp at h
 split at h
 ·rename_i t' x' d o2 os' h1 h2 h3
  split at h
  ·rename_i d' h4 h5
   split at h
   ·rename_i hc
    cases h
    exact ⟨d,o2,os',h1,h2,h3,rfl,by rw [h4,hc.1],h5,hc.2⟩
   ·cases h
  ·cases h
 ·cases h
theorem run_makeI {t:TypeId} {x:Value} (h:tagg P t=some true):(Instr.makeInterface t x).run P w = .ok (.iface t x) w:=by
 unfold tagg at h
 split at h
 ·rename_i hu;simp [Instr.makeInterface,Sem.run_bind,run_underlying hu]
 ·rename_i hu;simp [Instr.makeInterface,Sem.run_bind,run_underlying hu]
 ·cases h
 ·cases h
theorem put_get {a:Act} {d:Tmp} {c:Value} (h:d<a.tmps.size):(a.put (some d) c).eval (.tmp d)=c:=by
 simp [Act.put,Act.eval,Array.getD_eq_getD_getElem?,h]
variable {kt:TypeId→V→Sa→Prop}
theorem evOps_sound (ops:Array Oper):∀ (os:List Oper) (l:List Nat),l.map (fun (i:Nat)=>ops[i]?)=os.map some→∀ (m:Mp) (s:Sa) (a:Act) (w:World),Rel Mo m s (a::sv) w →
  RegNext Mo m s a.defers sv w k Q→RegThr Mo m s a.defers sv w kt Q→evOps P (semsT P kt) p ops os s k→wpOpsIn (Wd (rdOf m s)) n P ops Q l a w:=by
 intro os
 induction os with
 | nil =>
  intro l hl m s a w hR hN hT h
  have:l=[]:=by cases l <;> simp_all
  subst this
  exact hN m s a w h hR (Step.refl _ _ _) rfl rfl
 | cons o os ih =>
  intro l hl m s a w hR hN hT h
  cases l with
  | nil=>simp at hl
  | cons i l =>
   simp only [List.map_cons,List.cons.injEq] at hl
   obtain ⟨hi,hl⟩:=hl
   simp only [evOps] at h
   obtain ⟨hd0,h⟩:=h
   have hd:∀ (n' : Nat),n' = s.n→∀ d,o.dst=some d→d<n':=fun n' e d hd=>by rw [hd] at hd0;rw [e];exact hd0
   simp only [wpOpsIn,hi]
   have run:∀ (s1:Sa),Rel Mo m s1 (a::sv) w→s1.n=s.n→Step m s w m s1 w→rdOf m s1=rdOf m s→evOp P (semsT P kt) p o s1 (fun s'=>evOps P (semsT P kt) p ops os s' k) →
     o.wpIn (Wd (rdOf m s)) n P a w (wpOpsIn (Wd (rdOf m s)) n P ops Q l) Q:=by
    intro s1 hR1 hn1 hs1 hr1 h1
    rw [← hr1]
    refine evOp_sound hR1 (hT.step hs1 hr1) (hd _ hn1) (fun m' s' v w' hk hR' hs' hr'=>?_) h1
    rw [← hr']
    exact ih l hl m' s' _ w' hR' (by rw [put_defers];exact hN.step (hs1.trans hs') (hr'.trans hr1)) (by rw [put_defers];exact hT.step (hs1.trans hs') (hr'.trans hr1)) hk
   have skip:∀ (s1:Sa),Rel Mo m s1 (a::sv) w→s1.n=s.n→Step m s w m s1 w→rdOf m s1=rdOf m s→evOps P (semsT P kt) p ops os (s1.put o.dst (.tup [])) k →
     (∀ f,o.about P w a.eval=some f→(Wd (rdOf m s)).fn f)∧wpOpsIn (Wd (rdOf m s)) n P ops Q l (a.put o.dst undef) w:=by
    intro s1 hR1 hn1 hs1 hr1 h1
    refine ⟨fun _ _=>trivial,?_⟩
    have hR2:=hR1.put (dst:=o.dst) (hd _ hn1) (rep_undef (w:=w) (M:=Tot Mo s1.bx s1.ow m) (m:=m))
    have hr2:rdOf m (s1.put o.dst (.tup []))=rdOf m s:=by rw [rdOf_put];exact hr1
    rw [← hr2]
    exact ih l hl m _ _ w hR2 (by rw [put_defers];exact hN.step (step_put hs1) hr2) (by rw [put_defers];exact hT.step (step_put hs1) hr2) h1
   split at h
   ·rename_i t x hth
    obtain ⟨d,o2,os',e1,e2,e3,rfl,e5,e6,e7⟩:=thrOp_inv hth
    have hw:Region.wanted o (yielded ops a.tmps)=true:=by simp [Region.wanted,e2]
    rw [if_pos hw]
    have hdn:d<s.n:=hd _ rfl d e3
    have hsz:a.tmps.size=s.n:=hR.cur.size
    refine op_value (w':=w) (fun c e=>by rw [e1] at e;cases e) (v:=.iface t (a.eval x)) (by simp [execOp,e1,Sem.run_bind,run_makeI e7]) ?_
    cases l with
    | nil=>simp at hl
    | cons i2 l2 =>
     simp only [List.map_cons,List.cons.injEq] at hl
     have hw2:Region.wanted o2 (yielded ops (a.put o.dst (.iface t (a.eval x))).tmps)=true:=by simp [Region.wanted,e6]
     simp only [wpOpsIn,hl.1,if_pos hw2]
     refine ⟨fun _ _=>trivial,?_⟩
     rw [e3]
     have hrun:(execOp (a.put (some d) (.iface t (a.eval x))).eval o2).run P w = .halt (.panic (.iface t (a.eval x))) w:=by
      simp only [execOp,e5,put_get (c:=.iface t (a.eval x)) (hsz.symm ▸ hdn)]
      simp [Instr.panic,goPanic,Sem.run_bind]
     rw [Oper.semAt_eq _ _ _ (fun c e=>by rw [e5] at e;cases e),hrun,Oper.uponIn_panic]
     rw [e3] at h
     exact hT t (s.get x) (a.eval x) m (s.put (some d) .dead) _ w h (hR.put (fun d' e=>by cases e;exact hdn) .dead) (hR.operand x) (step_put (Step.refl _ _ _)) rfl put_defers
   split at h
   ·rename_i hg
    have hw:Region.wanted o (yielded ops a.tmps)=true:=by simp [Region.wanted,hg]
    rw [if_pos hw]
    exact run s hR rfl (Step.refl _ _ _) rfl h
   ·rename_i j want hg
    split at h
    ·rename_i t hjt
     split at h
     ·rename_i b hb
      have hv:=hR.get t
      rw [hb] at hv
      have hy:=yielded_bool hjt hv.val.1
      have hw:Region.wanted o (yielded ops a.tmps)=(some b==some want):=by simp [Region.wanted,hg,hy]
      have hRl:=hR.literal hb
      have hst:Step m s w m (s.put (some t) (.d (.v (.bool b)))) w:=step_put (Step.refl _ _ _)
      cases b with
      | true =>
       have h:=h.1 rfl
       cases want with
       | true=>rw [if_pos (by rw [hw];rfl)];exact run _ hRl (by rfl) hst (by rfl) h
       | false=>rw [if_neg (by rw [hw];simp)];exact skip _ hRl (by rfl) hst (by rfl) h
      | false =>
       have h:=h.2 rfl
       cases want with
       | true=>rw [if_neg (by rw [hw];simp)];exact skip _ hRl (by rfl) hst (by rfl) h
       | false=>rw [if_pos (by rw [hw];rfl)];exact run _ hRl (by rfl) hst (by rfl) h
     ·rename_i hb
      have hv:=hR.get t
      rw [hb] at hv
      obtain ⟨cs,e,hs,_⟩:=hv.tup_inv
      have e2:cs = #[]:=by cases cs;simp at hs;subst hs;rfl
      rw [e2] at e
      have hy:=yielded_undef hjt e
      have hw:Region.wanted o (yielded ops a.tmps)=false:=by simp [Region.wanted,hg,hy]
      rw [if_neg (by rw [hw];simp)]
      exact skip s hR rfl (Step.refl _ _ _) rfl h
     ·exact h.elim
    ·exact h.elim
theorem TC.mono {c:Code} {Q Q' : Ex→Sa→Prop} (h:TC P p c s Q) (hq:∀ e s',Q e s' → Q' e s'):TC P p c s Q':=fun Mo m a sv w n hR =>
 wpIn_mono (h Mo m a sv w n hR) (fun e a' w' ⟨x,m',s',h1,h2,h3⟩=>⟨x,m',s',h1,hq _ _ h2,h3⟩)
theorem NewMarks.refl {ds:List Deferred}:NewMarks ds w ds:=⟨[],rfl,by simp⟩
theorem CodePost.step {m' : Mp} {s' : Sa} {w' : World} {ds ds' : List Deferred} {Q:Ex→Sa→Prop} {e:Exit} {a' : Act} {w2:World} (hs:Step m s w m' s' w') (hr:rdOf m' s' = rdOf m s) (hm:NewMarks ds w ds') (h:CodePost Mo m' s' ds' sv w' Q e a' w2):CodePost Mo m s ds sv w Q e a' w2:=by
 obtain ⟨x,m2,s2,h1,h2,h3,h4,h5,h6⟩:=h
 exact ⟨x,m2,s2,h1,h2,h3,hs.trans h4,h5.trans hr,hm.trans hs.keeps.size h6⟩
theorem Rel.thrown {c:Value} {v:V} (hR:Rel Mo m s (a::sv) w) (hv:RepV w (Tot Mo s.bx s.ow m) m v c):Rel Mo m (s.thrown v) ({ a with tmps:=a.tmps.push c }::sv) w:=by
 have hsz:a.tmps.size=s.n:=hR.cur.size
 refine ⟨by simpa [Sa.thrown] using hR.len,?_,hR.box,hR.inj,hR.oww,hR.owx,hR.owb,?_,fun l q h=>hR.dep l q h,hR.lpi,hR.mo,by simpa [marks] using hR.mks,hR.owm,hR.vec⟩
 ·intro i hi hi'
  cases i with
  | zero =>
   have h0:=hR.fr 0 (by simp) (by simp)
   refine ⟨by simp [Sa.thrown,hsz],fun t=>?_,h0.def_⟩
   simp only [Sa.thrown,List.getElem_cons_zero,Array.getD_eq_getD_getElem?,Array.getElem?_push,hsz]
   by_cases e:t=s.n
   ·subst e;simpa [lkT_setT] using hv
   ·have:=h0.ts t
    simp only [List.getElem_cons_zero,Array.getD_eq_getD_getElem?] at this
    simpa [lkT_setT,e,Ne.symm e,fun h:s.n=t=>e h.symm] using this
  | succ i=>exact hR.fr (i+1) hi (by simpa using hi')
 ·intro l q hl
  obtain ⟨rc,b,hx⟩:=hR.lps l q hl
  refine ⟨rc,b,⟨hx.heap,hx.ps,hx.assign,hx.body,?_,hx.tmps,hx.stat⟩⟩
  have hown:=hx.own
  have hd:=hR.dep l q hl
  simp only [List.length_cons] at hd
  rw [List.reverse_cons,List.getElem?_append_left (by simp;omega)] at hown ⊢
  exact hown
theorem thr_code {Q:Ex→Sa→Prop} (hR:Rel Mo m s (a::sv) w):RegThr Mo m s a.defers sv w (thrQ Q) (CodePost Mo m s a.defers sv w Q) :=
 fun t v c m' s' a' w' hk hR' hv hs hr hd=>⟨.thr t,m',s'.thrown v,rfl,hk,hR'.thrown hv,⟨hs.keeps,hs.mt,hs.lp,hs.rd,hs.svrd,hs.lpm⟩,hr,by rw [hd];exact .refl⟩
theorem TC_region {id:Nat} {ops:Array Oper} {Q:Ex→Sa→Prop} (h:evOps P (semsT P (thrQ Q)) p ops ops.toList s (Q .norm)):TC P p (.region id ops false) s Q:=fun Mo m a sv w n hR=>by
 refine wpIn_region (evOps_sound ops ops.toList (List.range ops.size) ?_ m s a w hR ?_ (thr_code hR) h)
 ·apply List.ext_getElem
  ·simp
  ·intro i h1 h2
   simp at h1
   simp [h1]
 ·intro m' s' a' w' hk hR' hs hr hd
  exact ⟨.norm,m',s',rfl,hk,hR',hs,hr,by rw [hd];exact .refl⟩
theorem TC_seq {x y:Code} {Q:Ex→Sa→Prop} (h:TC P p x s (fun e s'=>match e with | .norm=>TC P p y s' Q | e=>Q e s')):TC P p (.seq x y) s Q:=fun Mo m a sv w n hR=>by
 refine wpIn_seq (wpIn_mono (h Mo m a sv w n hR) ?_)
 rintro e a' w' ⟨ex,m',s',h1,h2,h3,h4,h5,h6⟩
 cases e with
 | normal =>
  cases h1
  have:=h2 Mo m' a' sv w' n h3
  rw [h5] at this
  exact wpIn_mono this (fun e a2 w2 hp=>hp.step h4 h5 h6)
 | exit i=>cases h1;exact ⟨_,m',s',rfl,h2,h3,h4,h5,h6⟩
 | ret=>cases h1;exact ⟨_,m',s',rfl,h2,h3,h4,h5,h6⟩
 | goto l=>cases h1
 | panic c=>obtain ⟨t,v,rfl,rfl⟩:=exOf_panic h1;exact ⟨_,m',s',rfl,h2,h3,h4,h5,h6⟩
 | outgrown=>cases h1
theorem TC_skip {Q:Ex→Sa→Prop} (h:Q .norm s):TC P p .skip s Q:=fun _ m _ _ _ _ hR=>wpIn_skip ⟨.norm,m,s,rfl,h,hR,Step.refl _ _ _,rfl,.refl⟩
theorem TC_exit {id:Nat} {Q:Ex→Sa→Prop} (h:Q (.exit id) s):TC P p (.exit id) s Q:=fun _ m _ _ _ _ hR=>wpIn_exit ⟨.exit id,m,s,rfl,h,hR,Step.refl _ _ _,rfl,.refl⟩
theorem TC_ret {Q:Ex→Sa→Prop} (h:Q .ret s):TC P p .ret s Q:=fun _ m _ _ _ _ hR=>wpIn_ret ⟨.ret,m,s,rfl,h,hR,Step.refl _ _ _,rfl,.refl⟩
theorem TC_cond {c:Operand} {x y:Code} {b:Bool} {Q:Ex→Sa→Prop} (hc:s.get c = .d (.v (.bool b))) (h:CaseB b (TC P p x s Q) (TC P p y s Q)):TC P p (.cond c x y) s Q:=fun Mo m a sv w n hR=>by
 have hv:=hR.operand c
 rw [hc] at hv
 refine wpIn_cond hv.val.1 ?_
 cases b with
 | true=>exact h.1 rfl Mo m a sv w n hR
 | false=>exact h.2 rfl Mo m a sv w n hR
theorem TC_block {id:Nat} {c:Code} {Q:Ex→Sa→Prop} (h:TC P p c s (fun e s'=>match e with | .exit i=>if i=id then Q .norm s' else Q (.exit i) s' | e=>Q e s')):TC P p (.block id c) s Q:=fun Mo m a sv w n hR=>by
 refine wpIn_block (wpIn_mono (h Mo m a sv w n hR) ?_)
 rintro e a' w' ⟨ex,m',s',h1,h2,h3,h4,h5,h6⟩
 cases e with
 | normal=>cases h1;exact ⟨_,m',s',rfl,h2,h3,h4,h5,h6⟩
 | exit i =>
  cases h1
  simp only at h2
  by_cases e:i=id
  ·rw [if_pos e] at h2
   simp only [Exit.inBlock,if_pos e];exact ⟨_,m',s',rfl,h2,h3,h4,h5,h6⟩
  ·rw [if_neg e] at h2
   simp only [Exit.inBlock,if_neg e];exact ⟨_,m',s',rfl,h2,h3,h4,h5,h6⟩
 | ret=>cases h1;exact ⟨_,m',s',rfl,h2,h3,h4,h5,h6⟩
 | goto l=>cases h1
 | panic c=>obtain ⟨t,v,rfl,rfl⟩:=exOf_panic h1;exact ⟨_,m',s',rfl,h2,h3,h4,h5,h6⟩
 | outgrown=>cases h1
theorem ev_mono {c:Code}:∀ {s:Sa} {Q Q' : Ex→Sa→Prop},(∀ e s',Q e s' → Q' e s')→ev P (semsT P) p c s Q→TC P p c s Q':=by
 induction c with
 | skip=>exact fun hq h=>TC_skip (hq _ _ h)
 | region id ops d =>
  intro s Q Q' hq h
  cases d with
  | false=>exact (TC_region h).mono hq
  | true=>exact TC.mono h hq
 | seq x y ihx ihy =>
  intro s Q Q' hq h
  refine TC_seq (ihx ?_ h)
  intro e s' hx
  cases e with
  | norm=>exact ihy hq hx
  | exit i=>exact hq _ _ hx
  | ret=>exact hq _ _ hx
  | thr t=>exact hq _ _ hx
 | cond c x y ihx ihy =>
  intro s Q Q' hq h
  simp only [ev] at h
  split at h
  ·rename_i b hb
   exact TC_cond hb ⟨fun e=>ihx hq (h.1 e),fun e=>ihy hq (h.2 e)⟩
  ·exact h.elim
 | block id b ih =>
  intro s Q Q' hq h
  refine TC_block (ih ?_ h)
  intro e s' hx
  cases e with
  | norm=>exact hq _ _ hx
  | exit i =>
   simp only at hx ⊢
   split
   ·rename_i e;rw [if_pos e] at hx;exact hq _ _ hx
   ·rename_i e;rw [if_neg e] at hx;exact hq _ _ hx
  | ret=>exact hq _ _ hx
  | thr t=>exact hq _ _ hx
 | loop b ih=>exact fun hq h=>TC.mono h hq
 | rangeFunc f ps x y ihx ihy=>exact fun hq h=>TC.mono h hq
 | exit id=>exact fun hq h=>TC_exit (hq _ _ h)
 | ret=>exact fun hq h=>TC_ret (hq _ _ h)
 | scope b ih=>exact fun hq h=>h.elim
 | label l=>exact fun hq h=>h.elim
 | goto l=>exact fun hq h=>h.elim
 | refuse why=>exact fun hq h=>h.elim
theorem ev_sound {c:Code} {Q:Ex→Sa→Prop} (h:ev P (semsT P) p c s Q):TC P p c s Q:=ev_mono (fun _ _ h=>h) h
end Go.Ab
namespace Go.Ab
open Go Go.RowKit
variable {P:Program} {w:World} {n:Nat} {Mo:Cells} {m:Mp} {s:Sa} {as:List Act} {p:Name}
def resK (P:Program) (s:Sa):List ResultVar→(List V→Prop)→Prop
 | [],k=>k []
 | .tmp t::rs,k=>resK P s rs fun vs=>k (lkT t s.ts::vs)
 | .cell a t::rs,k=>match tagg P t with
  | some ag=>(ag=false→tsz P t≠0)∧match lkT a s.ts with
   | .ptr nm off=>match lookN nm s.bx with
    | some c=>off+tsz P t≤c.cells.length∧resK P s rs fun vs=>k (loadBox ag off (tsz P t) c::vs)
    | none=>False
   | _=>False
  | none=>False
def mkRes:List V→V
 | [v]=>v
 | vs=>.tup vs
def Sa.pop (s:Sa):Sa:=match s.sv with
 | f::fs=>{ rd:=f.rd,n:=f.n,ts:=f.ts,sv:=fs,bx:=s.bx,lp:=s.lp,ow:=s.ow,vc:=s.vc }
 | []=>s
def argTs:Nat→List V→List (Nat×V)
 | _,[]=>[]
 | i,v::vs=>(i,v)::argTs (i+1) vs
def Sa.push (s:Sa) (n:Nat) (ts:List (Nat×V)):Sa:={ rd:=none,n:=n,ts:=ts,sv:={ rd:=s.rd,n:=s.n,ts:=s.ts }::s.sv,bx:=s.bx,lp:=s.lp,ow:=s.ow,vc:=s.vc }
theorem look_argTs (vs:List V):∀ (i t:Nat),lkT t (argTs i vs)=if h:i≤t∧t - i<vs.length then vs[t - i] else .dead:=by
 induction vs with
 | nil=>intro i t;simp [argTs,lkT]
 | cons v vs ih =>
  intro i t
  simp only [argTs,lkT]
  by_cases e:i=t
  ·subst e;simp
  ·simp only [e,if_false,ih]
   by_cases h:i+1≤t∧t - (i+1)<vs.length
   ·have h' : i≤t∧t - i<(v::vs).length:=⟨by omega,by simp;omega⟩
    rw [dif_pos h,dif_pos h']
    have e2:t - i=(t - (i+1))+1:=by omega
    simp only [e2,List.getElem_cons_succ]
   ·have h' : ¬ (i≤t∧t - i<(v::vs).length):=fun hx=>h ⟨by omega,by have:=hx.2;simp at this;omega⟩
    rw [dif_neg h,dif_neg h']
theorem Rel.push (h:Rel Mo m s as w) (nt:Nat) {args:List V} {vs:Array Value} (ha:ArgsOK w (Tot Mo s.bx s.ow m) m args vs) (hle:args.length≤nt) :
  Rel Mo m (s.push nt (argTs 0 args)) ({ tmps:=vs++Array.replicate (nt - vs.size) undef,defers:=[] }::as) w:=by
 refine ⟨by simp [Sa.push,h.len],?_,h.box,h.inj,h.oww,h.owx,h.owb,?_,?_,h.lpi,h.mo,?_,h.owm,h.vec⟩
 ·intro i hi hi'
  cases i with
  | zero =>
   refine ⟨by simp [Sa.push,ha.1];omega,fun t=>?_,fun d hd=>by grind⟩
   simp only [Sa.push,List.getElem_cons_zero]
   rw [look_argTs]
   split
   ·rename_i hx
    have:=ha.2 t (by grind)
    simp only [Nat.sub_zero]
    rw [Array.getD_eq_getD_getElem?] at this ⊢
    grind
   ·exact .dead
  | succ i=>exact h.fr i (by simpa [Sa.push] using hi) (by grind)
 ·intro l q hl
  obtain ⟨r,a,hr⟩:=h.lps l q hl
  refine ⟨r,a,⟨hr.heap,hr.ps,hr.assign,hr.body,?_,hr.tmps,hr.stat⟩⟩
  have:=hr.own
  grind
 ·intro l q hl
  have:=h.dep l q hl
  grind
 ·have:=h.mks
  simpa [marks] using this
theorem Rel.pop {a:Act} (h:Rel Mo m s (a::as) w) (hne:s.sv≠[]) (hdep:∀ l q,lookN l s.lp=some q→q.depth+1<as.length):Rel Mo m s.pop as w:=by
 cases hsv:s.sv with
 | nil=>grind
 | cons f fs =>
  have e:s.pop={ rd:=f.rd,n:=f.n,ts:=f.ts,sv:=fs,bx:=s.bx,lp:=s.lp,ow:=s.ow,vc:=s.vc }:=by simp [Sa.pop,hsv]
  rw [e]
  have hl:=h.len
  rw [hsv] at hl
  simp only [List.length_cons] at hl
  refine ⟨by grind,?_,h.box,h.inj,h.oww,h.owx,h.owb,?_,hdep,h.lpi,h.mo,?_,h.owm,h.vec⟩
  ·intro i hi hi'
   have:=h.fr (i+1) (by grind) (by grind)
   simp_all
  ·intro l q hl
   obtain ⟨r,b,hr⟩:=h.lps l q hl
   refine ⟨r,b,⟨hr.heap,hr.ps,hr.assign,hr.body,?_,hr.tmps,hr.stat⟩⟩
   have:=hr.own
   grind
  ·have:=h.mks
   simp only [marks,List.flatMap_cons,List.nodup_append] at this
   exact this.2.1
def resF (tmps:Array Value):ResultVar→Sem Value
 | .tmp t=>pure (tmps.getD t undef)
 | .cell a t=>do loadVar t (← asAddr (tmps.getD a undef))
theorem results_eq (fn:Func) (tmps:Array Value):results fn tmps=(do let vs ← fn.results.mapM (resF tmps);pure (if h:vs.size=1 then vs[0] else .tuple vs)):=rfl
theorem run_results {a:Act} (h:Rel Mo m s (a::as) w):∀ (rs:List ResultVar) (K:List V→Prop),resK P s rs K →
  ∃ vs cs,K vs∧(rs.mapM (resF a.tmps)).run P w = .ok cs w∧cs.length=vs.length∧∀ i (h1:i<vs.length) (h2:i<cs.length),RepV w (Tot Mo s.bx s.ow m) m vs[i] cs[i]:=by
 intro rs
 induction rs with
 | nil=>intro K hK;exact ⟨[],[],hK,by simp,rfl,by simp⟩
 | cons r rs ih =>
  intro K hK
  cases r with
  | tmp t =>
   obtain ⟨vs,cs,k1,k2,k3,k4⟩:=ih _ hK
   refine ⟨lkT t s.ts::vs,a.tmps.getD t undef::cs,k1,by grind [Sem.run_bind,resF,Sem.run_pure,Result.andThen_ok],by grind,fun i h1 h2=>?_⟩
   cases i with
   | zero=>exact h.get t
   | succ i=>grind
  | cell b t =>
   simp only [resK] at hK
   split at hK
   ·rename_i ag hag
    obtain ⟨hz,hK⟩:=hK
    split at hK
    ·rename_i nm off hb
     split at hK
     ·rename_i c hc
      obtain ⟨hle,hK⟩:=hK
      obtain ⟨vs,cs,k1,k2,k3,k4⟩:=ih _ hK
      have hv:=h.get b
      rw [hb] at hv
      obtain ⟨ds,T,hbx⟩:=h.box nm c hc
      have hload:=run_loadVar (P:=P) (fun j=>ds.getD (off+j) undef) hag hz (b:=m.bx nm) (off:=off) (w:=w) (fun j hj=>by
       rw [cell_of_block (hbx.heap.cells (isMpc_of (by omega))),Array.getD_eq_getD_getElem?,Array.getElem?_eq_getElem (by have:=hbx.size;omega)];rfl)
      refine ⟨loadBox ag off (tsz P t) c::vs,_::cs,k1,by
       simp only [List.mapM_cons,Sem.run_bind,resF,hv.ptr_inv];simp only [asAddr,Sem.run_pure,Result.andThen_ok,hload];rw [k2];rfl,by grind,fun i h1 h2=>?_⟩
      cases i with
      | zero=>exact repV_loadBox (f:=fun j=>ds.getD (off+j) undef) hle hz (fun j hj=>hbx.leafs _ (by omega)) (fun j hj=>hbx.rep _ (by omega))
      | succ i=>grind
     grind
    grind
   grind
theorem run_results' {a:Act} {fn:Func} (h:Rel Mo m s (a::as) w) (K:List V→Prop) (hK:resK P s fn.results.toList K) :
  ∃ vs c,K vs∧(results fn a.tmps).run P w = .ok c w∧RepV w (Tot Mo s.bx s.ow m) m (mkRes vs) c:=by
 obtain ⟨vs,cs,k1,k2,k3,k4⟩:=run_results h fn.results.toList K hK
 refine ⟨vs,if cs.length=1 then cs.getD 0 undef else .tuple cs.toArray,k1,?_,?_⟩
 ·rw [results_eq]
  simp only [Sem.run_bind]
  have e:fn.results.mapM (resF a.tmps)=(fun l=>l.toArray) <$> fn.results.toList.mapM (resF a.tmps):=by
   rw [← List.mapM_toArray]
  grind [Sem.run_map,Result.andThen_ok,Sem.run_pure]
 ·by_cases h1:cs.length=1
  ·rw [if_pos h1]
   obtain ⟨c,rfl⟩:=List.length_eq_one_iff.1 h1
   obtain ⟨v,rfl⟩:=List.length_eq_one_iff.1 (by rw [← k3];exact h1)
   exact k4 0 (by simp) (by simp)
  ·rw [if_neg h1]
   have:mkRes vs = .tup vs:=by
    unfold mkRes
    split
    ·grind
    rfl
   rw [this]
   exact .tup (by grind) (fun i hi=>by
    simp_all)
end Go.Ab
namespace Go.Ab
open Go Go.RowKit
variable {P:Program} {w:World} {n:Nat} {Mo:Cells} {m:Mp} {s:Sa} {as:List Act} {p:Name}
theorem Rel.takeMark {a:Act} {r:Nat} {ds:List Deferred} (h:Rel Mo m s ({ a with defers:={ target:=.collected r,args:=#[] }::ds }::as) w) (hr:w.heap[r]? = some (.deferred (some []))) (o:Obj) :
  Rel Mo m s ({ a with defers:=ds }::as) (w.putObj r o):=by
 have hne:∀ (b:Nat) (x:Obj),w.heap[b]? = some x→(∀ y,x ≠ .deferred y)→(w.putObj r o).heap[b]? = some x:=by
  intro b x hx hnx
  have:b≠r:=fun e=>by subst e;rw [hr] at hx;cases hx;exact hnx _ rfl
  rw [World.putObj_heap_other this];exact hx
 have hst:Stab w (Tot Mo s.bx s.ow m) (w.putObj r o) (Tot Mo s.bx s.ow m):=by
  intro b j c hc hm
  refine ⟨?_,hm⟩
  have hb:b≠r:=fun e=>by subst e;simp [World.cell?,hr] at hc
  rw [World.cell?_of_block (w:=w) (World.putObj_heap_other hb)];exact hc
 have hsp:∀ i sz v,Spare w m i sz v→Spare (w.putObj r o) m i sz v:=by
  intro i sz v hs
  unfold Spare at hs ⊢
  split at hs
  ·exact hs
  ·rcases hs with hs | ⟨h1,h2,h3,c,T,h4,h5⟩
   ·exact .inl hs
   ·exact .inr ⟨h1,h2,h3,c,T,hne _ _ h4 (by simp),h5⟩
  ·exact hs.elim
 have hrep:∀ v c,RepV w (Tot Mo s.bx s.ow m) m v c→RepV (w.putObj r o) (Tot Mo s.bx s.ow m) m v c:=fun v c hv=>hv.mono hst (fun _ _=>rfl) (fun i _ sz v hs=>hsp i sz v hs) (fun _ _=>rfl)
 have hmk:=h.mks
 have hfl:({ target:=.collected r,args:=#[] }::ds:List Deferred).filter isMk={ target:=.collected r,args:=#[] }::ds.filter isMk:=List.filter_cons_of_pos rfl
 simp only [marks,List.flatMap_cons,hfl,List.cons_append,List.nodup_cons] at hmk
 have hdef:∀ (d:Deferred),d≠{ target:=.collected r,args:=#[] }→(∃ r',d={ target:=.collected r',args:=#[] }∧w.heap[r']? = some (.deferred (some [])))→∃ r',d={ target:=.collected r',args:=#[] }∧(w.putObj r o).heap[r']? = some (.deferred (some [])):=by
  rintro d hd ⟨r',e,hr'⟩
  refine ⟨r',e,?_⟩
  have:r' ≠ r:=fun e'=>hd (by rw [e,e'])
  rw [World.putObj_heap_other this];exact hr'
 refine ⟨by simpa using h.len,?_,?_,h.inj,?_,h.owx,h.owb,?_,by simpa using h.dep,h.lpi,fun b j hm=>by rw [World.putObj_size];exact h.mo b j hm,?_,h.owm,fun k d hk=>⟨(h.vec k d hk).1,(h.vec k d hk).2.putObj hr (by simp) hst⟩⟩
 ·intro i hi hi'
  cases i with
  | zero =>
   have h0:=h.fr 0 (by simp) (by simp)
   refine ⟨h0.size,fun t=>hrep _ _ (h0.ts t),fun d hd=>?_⟩
   have hd' : d∈ds.filter isMk:=hd
   refine hdef d (fun e=>hmk.1 (by rw [← e];exact List.mem_append_left _ hd')) ?_
   exact h0.def_ d (by show d∈List.filter isMk (_::ds);rw [hfl];exact List.mem_cons_of_mem _ hd')
  | succ i =>
   have h0:=h.fr (i+1) hi (by simpa using hi')
   simp only [List.getElem_cons_succ] at h0 ⊢
   refine ⟨h0.size,fun t=>hrep _ _ (h0.ts t),fun d hd=>?_⟩
   refine hdef d (fun e=>hmk.1 ?_) (h0.def_ d hd)
   rw [← e]
   exact List.mem_append_right _ (List.mem_flatMap.2 ⟨_,List.getElem_mem _,hd⟩)
 ·intro nm c hn
  obtain ⟨cs,T,hb⟩:=h.box nm c hn
  exact ⟨cs,T,hb.heap.mono (fun o ho h1 _=>hne _ _ ho h1),hb.size,hb.leafs,fun i hi=>hrep _ _ (hb.rep i hi)⟩
 ·intro i hi hn
  obtain ⟨c,T,h1,h2⟩:=h.oww i hi hn
  exact ⟨c,T,hne _ _ h1 (by simp),h2⟩
 ·intro l q hl
  obtain ⟨rc,b,hx⟩:=h.lps l q hl
  refine ⟨rc,b,⟨hne _ _ hx.heap (by simp),hx.ps,hx.assign,hx.body,?_,hx.tmps,hx.stat⟩⟩
  have hown:=hx.own
  have hd:=h.dep l q hl
  simp only [List.length_cons] at hd
  rw [List.reverse_cons,List.getElem?_append_left (by simp;omega)] at hown ⊢
  exact hown
 ·exact hmk.2
theorem below_putObj {B:Nat} {r:Nat} {o:Obj} (h:B≤r):Below B w (w.putObj r o) :=
 ⟨rfl,rfl,rfl,by simp,fun k hk=>World.putObj_heap_other (by omega)⟩
theorem Step.after {m' : Mp} {s' : Sa} {w1 w2:World} (h:Step m s w m' s' w1) (hb:Below w.heap.size w1 w2):Step m s w m' s' w2:=by
 refine ⟨⟨hb.os.trans h.keeps.os,hb.tape.trans h.keeps.tape,hb.output.trans h.keeps.output,Nat.le_trans h.keeps.size hb.size,fun b hlt hC hL=>?_,fun b c T f hc hL=>?_⟩,h.mt,h.lp,h.rd,h.svrd,h.lpm⟩
 ·rw [hb.block b hlt];exact h.keeps.blk b hlt hC hL
 ·obtain ⟨c',h1,h2,h3⟩:=h.keeps.cel b c T f hc hL
  exact ⟨c',by rw [hb.block b (Array.getElem?_eq_some_iff.1 hc).1];exact h1,h2,h3⟩
theorem leavesM {fn:Func} {F:Fence} {R:Ending→World→Prop} {u:FrameMode} {tail:List Deferred} {tmps:Array Value} (hu:u ≠ .run) (B:Nat):∀ (ds:List Deferred) (a:Act) (w:World),a.defers=ds++tail →
  Rel Mo m s (a::as) w→(∀ d∈ds,∃ r,d={ target:=.collected r,args:=#[] }∧B≤r) →
  (∀ w',Rel Mo m s ({ a with defers:=tail }::as) w' → Below B w w' → LeavesInM F n P fn tmps R tail u w') →
  LeavesInM F n P fn tmps R (ds++tail) u w:=by
 intro ds
 induction ds with
 | nil =>
  intro a w hd hR _ hk
  have e:({ a with defers:=tail }:Act)=a:=by cases a;simp at hd;subst hd;rfl
  exact hk w (by rw [e];exact hR) (Below.refl _ _)
 | cons d ds ih =>
  intro a w hd hR hB hk
  obtain ⟨r,rfl,hr⟩:=hB d (by simp)
  obtain ⟨r',e,hr'⟩:=(hR.fr 0 (by simp) (by simp)).def_ { target:=.collected r,args:=#[] } (List.mem_filter.2 ⟨by simp [hd],rfl⟩)
  cases e
  have e2:a={ a with defers:={ target:=.collected r,args:=#[] }::(ds++tail) }:=by cases a;simp at hd;subst hd;rfl
  rw [e2] at hR
  have hR2:=hR.takeMark hr' (.deferred none)
  refine ⟨hu,.inl ⟨r,_,rfl,run_takeDeferred hr',?_⟩⟩
  exact ih { a with defers:=ds++tail } _ rfl hR2 (fun d hd=>hB d (by simp [hd])) (fun w' k1 k2=>hk w' k1 ((below_putObj hr).trans k2))
theorem leaves {fn:Func} {F:Fence} {R:Ending→World→Prop} {K:List V→Prop} (B:Nat) (hK:resK P s fn.results.toList K) (ds:List Deferred) (a:Act) (w:World) (hd:a.defers=ds)
  (hR:Rel Mo m s (a::as) w) (hB:∀ d∈ds,∃ r,d={ target:=.collected r,args:=#[] }∧B≤r)
  (hk:∀ vs c w',K vs→Rel Mo m s ({ a with defers:=[] }::as) w' → RepV w' (Tot Mo s.bx s.ow m) m (mkRes vs) c→Below B w w' → R (.returned c) w') :
  LeavesInM F n P fn a.tmps R ds .returning w:=by
 have:=leavesM (fn:=fn) (F:=F) (R:=R) (n:=n) (P:=P) (u:=.returning) (tail:=[]) (by simp) B ds a w (by simpa using hd) hR hB (fun w' h1 h2=>by
  obtain ⟨vs,c,k1,k2,k3⟩:=run_results' (P:=P) h1 K hK
  exact ⟨c,k2,hk vs c w' k1 h1 k3 h2⟩)
 simpa using this
theorem callsIn_round {r:Option Nat} {f:FuncId} {vs:Array Value} {R:Ending→World→Prop} (h:CallsIn (Wd none) n P f vs w R):CallsIn (Wd r) n P f vs w R:=h
def lpD (l:List (Name×Lp)):List (Name×Nat):=l.map fun x=>(x.1,x.2.depth)
theorem lpD_look:∀ {l l' : List (Name×Lp)},lpD l=lpD l' → ∀ {nm:Name} {q:Lp},lookN nm l=some q→∃ q',lookN nm l' = some q' ∧ q'.depth=q.depth:=by
 intro l
 induction l with
 | nil=>intro l' _ nm q h;simp [lookN] at h
 | cons x l ih =>
  intro l' e nm q h
  cases l' with
  | nil=>simp [lpD] at e
  | cons y l' =>
   simp only [lpD,List.map_cons,List.cons.injEq,Prod.mk.injEq] at e
   obtain ⟨x1,x2⟩:=x
   obtain ⟨y1,y2⟩:=y
   simp only at e
   simp only [lookN] at h ⊢
   rw [← e.1.1]
   split at h
   ·rename_i e'
    simp only [Option.some.injEq] at h;subst h
    exact ⟨y2,by rw [if_pos e'],e.1.2.symm⟩
   ·rename_i e'
    rw [if_neg e'];exact ih e.2 h
def Left (k:V→Sa→Prop) (kt:TypeId→V→Sa→Prop) (P:Program) (rs:List ResultVar) (s0:Sa) (e:Ex) (s:Sa):Prop :=
 s.sv.length=s0.sv.length+1∧lpD s.lp=lpD s0.lp∧match e with
  | .exit _=>False
  | .thr t=>kt t (lkT (s.n - 1) s.ts) s.pop
  | _=>resK P s rs fun vs=>k (mkRes vs) s.pop
theorem TCallT.mono {f:FuncId} {args:List V} {k k' : V→Sa→Prop} {kt kt' : TypeId→V→Sa→Prop} (h:TCallT P kt p f args s k) (hk:∀ v s',k v s' → k' v s') (ht:∀ t v s',kt t v s' → kt' t v s'):TCallT P kt' p f args s k' :=
 fun Mo m as w n vs r hR ha=>(h Mo m as w n vs r hR ha).mono fun _ _ hp=>hp.imp
  (fun ⟨c,v,m',s',e,h1,h2⟩=>⟨c,v,m',s',e,hk _ _ h1,h2⟩) (fun ⟨t,c,v,m',s',e,h1,h2⟩=>⟨t,c,v,m',s',e,ht _ _ _ h1,h2⟩)
theorem TCallT.noT {f:FuncId} {args:List V} {k:V→Sa→Prop} (h:TCallT P noThr p f args s k):TCall P p f args s k :=
 fun Mo m as w n vs r hR ha=>(h Mo m as w n vs r hR ha).mono fun _ _ hp=>hp.elim id fun ⟨_,_,_,_,_,_,h,_⟩=>h.elim
theorem left_pop {f:Nat} {args:List V} {s' : Sa} {a' : Act} {m' : Mp} {w' w2:World} (hR:Rel Mo m s as w) (hsvl:s'.sv.length=s.sv.length+1) (hlpn:lpD s'.lp=lpD s.lp)
  (hst:Step m (s.push f (argTs 0 args)) w m' s' w') (hb:Below w.heap.size w' w2) (hR2:Rel Mo m' s' (a' :: as) w2) :
  Rel Mo m' s'.pop as w2∧s'.pop.bx=s'.bx∧s'.pop.ow=s'.ow∧Step m s w m' s'.pop w2∧rdOf m' s'.pop=rdOf m s:=by
 have hne:s'.sv≠[]:=fun e=>by rw [e] at hsvl;simp at hsvl
 have hdep:∀ l q,lookN l s'.lp=some q→q.depth+1<as.length:=by
  intro l q hl
  obtain ⟨q0,h1,h2⟩:=lpD_look hlpn hl
  rw [← h2];exact hR.dep l q0 h1
 have hpop:=hR2.pop hne hdep
 obtain ⟨g,gs,hsv⟩:=List.exists_cons_of_ne_nil hne
 have hsvrd:=hst.svrd
 rw [hsv] at hsvrd
 simp only [Sa.push,List.map_cons,List.cons.injEq] at hsvrd
 have hbx:s'.pop.bx=s'.bx∧s'.pop.ow=s'.ow∧s'.pop.lp=s'.lp∧s'.pop.rd=s.rd∧s'.pop.sv.map (·.rd)=s.sv.map (·.rd):=by
  simp only [Sa.pop,hsv];exact ⟨trivial,trivial,trivial,hsvrd.1,hsvrd.2⟩
 have hst2:=hst.after hb
 have hlpm:∀ l,some l∈rds s→MpEq l m' m:=fun l hl=>hst.lpm l (by
  simp only [rds,Sa.push,List.map_cons,List.mem_cons] at hl ⊢
  exact .inr hl)
 refine ⟨hpop,hbx.1,hbx.2.1,⟨hst2.keeps,by rw [hbx.1,hbx.2.1];exact hst2.mt,by rw [hbx.2.2.1];exact hst2.lp,hbx.2.2.2.1,hbx.2.2.2.2,hlpm⟩,?_⟩
 simp only [rdOf,hbx.2.2.2.1]
 exact rdN_map fun l hl=>(hlpm l (by simp [rds,hl])).lp
theorem exOf_norm {e:Exit} (h:exOf e=some .norm):e = .normal:=by
 cases e with
 | normal=>rfl
 | panic c=>obtain ⟨t,v,_,h⟩:=exOf_panic h;cases h
 | _=>cases h
theorem Rel.unthrow {a:Act} {c:Value} (h:Rel Mo m s ({ a with tmps:=a.tmps.push c }::as) w):RepV w (Tot Mo s.bx s.ow m) m (lkT (s.n - 1) s.ts) c:=by
 have hsz:(a.tmps.push c).size=s.n:=h.cur.size
 have:=h.get (s.n - 1)
 rw [show ({ a with tmps:=a.tmps.push c }:Act).tmps=a.tmps.push c from rfl,Array.getD_eq_getD_getElem?] at this
 have e:s.n - 1=a.tmps.size:=by simp at hsz;omega
 rw [e,Array.getElem?_push_size] at this
 rw [e];exact this
theorem TCall_enterT {f:FuncId} {fn:Func} {c:Code} {args:List V} {k:V→Sa→Prop} {kt:TypeId→V→Sa→Prop} (q:Name) (hf:P.funcs[f]? = some fn) (hb:fn.body=some c) (hle:args.length≤fn.ntmps)
  (h:TC P q c (s.push fn.ntmps (argTs 0 args)) (Left k kt P fn.results.toList s)):TCallT P kt p f args s k:=by
 intro Mo m as w n vs r hR hargs
 refine callsIn_round (callsIn_of_wp_marks hf hb trivial ?_ rfl)
 have h0:=hR.push fn.ntmps hargs hle
 have h1:=h Mo m _ as w n h0
 have hrd:rdOf m (s.push fn.ntmps (argTs 0 args))=none:=rfl
 rw [hrd] at h1
 refine wpIn_mono h1 ?_
 rintro e a' w' ⟨ex,m',s',he,⟨hsvl,hlpn,hres⟩,hR',hst,_,hmk⟩
 have hB:=hmk.nil
 have hfin:(resK P s' fn.results.toList fun vs=>k (mkRes vs) s'.pop)→Rel Mo m' s' (a' :: as) w' → LeavesInM (Wd none) n P fn a'.tmps (fun e w'=>CallPost Mo m s as w k e w' ∨ ThrPost Mo m s as w kt e w') a'.defers .returning w':=fun hres hR'=>by
  refine leaves w.heap.size hres a'.defers a' w' rfl hR' hB (fun vs c w2 hk hR2 hv hb=>.inl ?_)
  obtain ⟨p1,p2,p3,p4,p5⟩:=left_pop hR hsvl hlpn hst hb hR2
  exact ⟨c,mkRes vs,m',s'.pop,rfl,hk,p1,by rw [p2,p3];exact hv,p4,p5⟩
 cases e with
 | normal=>cases he;exact hfin hres hR'
 | ret=>cases he;exact hfin hres hR'
 | exit i=>cases he;exact hres.elim
 | goto l=>cases he
 | panic c =>
  obtain ⟨t,v,rfl,rfl⟩:=exOf_panic he
  have:=leavesM (fn:=fn) (F:=Wd none) (R:=fun e w'=>CallPost Mo m s as w k e w' ∨ ThrPost Mo m s as w kt e w') (n:=n) (P:=P) (u:=.panicking (panicOf t v)) (tail:=[]) (tmps:=a'.tmps) (by simp) w.heap.size a'.defers { a' with tmps:=a'.tmps.push v } w' (by simp) hR' hB (fun w2 h1 h2=>.inr ?_)
  ·rw [List.append_nil] at this;exact this
  ·obtain ⟨p1,p2,p3,p4,p5⟩:=left_pop hR hsvl hlpn hst h2 h1
   exact ⟨t,v,_,m',s'.pop,rfl,hres,p1,by rw [p2,p3];exact Rel.unthrow (a:={ a' with defers:=[] }) h1,p4,p5⟩
 | outgrown=>cases he
end Go.Ab
namespace Go.Ab
open Go Go.RowKit
variable {P:Program} {w:World} {n:Nat} {Mo:Cells} {m:Mp} {s:Sa} {as:List Act} {p:Name}
mutual
def D.wf:D→Prop
 | .v x=>okLeaf x
 | .agg cs=>D.wfL cs
 | .sl xs=>xs.length≤9223372036854775807∧D.wfL xs
def D.wfL:List D→Prop
 | []=>True
 | x::xs=>x.wf∧D.wfL xs
end
theorem wfL_iff {xs:List D}:D.wfL xs↔∀ i (hi:i<xs.length),xs[i].wf:=by
 induction xs with
 | nil=>simp [D.wfL]
 | cons x xs ih =>
  simp only [D.wfL,ih]
  constructor
  ·rintro ⟨h1,h2⟩ i hi
   cases i with
   | zero=>exact h1
   | succ i=>exact h2 i (by simpa using hi)
  ·intro h
   exact ⟨h 0 (by simp),fun i hi=>h (i+1) (by simpa using hi)⟩
theorem wf_cells {x:D} (h:∀ j (hj:j<x.cells.length),(x.cells[j]).wf):x.wf:=by
 cases x with
 | v c=>exact h 0 (by simp [D.cells])
 | agg cs=>simp only [D.wf];exact wfL_iff.2 h
 | sl xs=>exact h 0 (by simp [D.cells])
theorem RepD.wf {M:Cells} {x:D} {c:Value} (h:RepD w M x c):x.wf:=by
 induction h with
 | v h=>exact h
 | agg hs hl _ ih=>simp only [D.wf];exact wfL_iff.2 ih
 | sl sz b off cv hc hm ha hsz hcell _ ih =>
  simp only [D.wf]
  exact ⟨hm,wfL_iff.2 fun i hi=>wf_cells (ih i hi)⟩
def PureOK (P:Program) (f:FuncId) (ds rs:List D):Prop :=
 ∀ (M:Cells) (w:World) (n:Nat) (vs:Array Value),(∀ b o,M b o→b<w.heap.size)→vs.size=ds.length→(∀ i (hi:i<ds.length),RepD w M ds[i] (vs.getD i undef)) →
  CallsIn (Wd none) n P f vs w fun e w'=>∃ c,e = .returned c∧Below w.heap.size w w' ∧ ∀ m,RepV w' M m (mkRes (rs.map .d)) c
def s0 (n:Nat) (ds:List D):Sa:={ rd:=none,n:=n,ts:=argTs 0 (ds.map .d),sv:=[],bx:=[],lp:=[],ow:=[],vc:=[] }
def Out (P:Program) (rs:List ResultVar) (out:List D) (e:Ex) (s:Sa):Prop :=
 (match e with | .exit _=>False | .thr _=>False | _=>True)∧resK P s rs fun vs=>toDs V.toD vs=some out
theorem mkRes_toD {M:Cells} {vs:List V} {ds:List D} {c:Value} (h:RepV w M m (mkRes vs) c) (hd:toDs V.toD vs=some ds):∀ m',RepV w M m' (mkRes (ds.map .d)) c:=by
 obtain ⟨h1,h2⟩:=toDs_spec hd
 intro m'
 by_cases hl:vs.length=1
 ·obtain ⟨v,rfl⟩:=List.length_eq_one_iff.1 hl
  obtain ⟨x,rfl⟩:=List.length_eq_one_iff.1 (h1.trans hl)
  exact .d (RepV.toD h (h2 0 (by simp) (by simp)))
 ·have e1:mkRes vs = .tup vs:=by
   unfold mkRes;split
   ·simp at hl
   ·rfl
  have e2:mkRes (ds.map .d) = .tup (ds.map .d):=by
   unfold mkRes;split
   ·rename_i v hv;have:=congrArg List.length hv;simp at this;omega
   ·rfl
  rw [e1] at h
  rw [e2]
  obtain ⟨cs,rfl,hs,hr⟩:=h.tup_inv
  refine .tup (by simp;omega) (fun i hi=>?_)
  simp only [List.length_map] at hi
  simp only [List.getElem_map]
  exact .d ((hr i (by omega)).toD (h2 i (by omega) hi))
theorem rel_start {M:Cells} {ds:List D} {vs:Array Value} (nt:Nat) (hlt:∀ b o,M b o→b<w.heap.size) (hs:vs.size=ds.length) (hr:∀ i (hi:i<ds.length),RepD w M ds[i] (vs.getD i undef)) (hle:ds.length≤nt) :
  Rel M m (s0 nt ds) [{ tmps:=vs++Array.replicate (nt - vs.size) undef,defers:=[] }] w:=by
 have htot:∀ b o,Tot M ([]:List (Name×V)) [] m b o→M b o:=fun b o h=>by
  rcases h with h | ⟨nm,c,hn,_⟩ | ⟨i,hi,_⟩
  ·exact h
  ·simp [lookN] at hn
  ·simp at hi
 refine ⟨rfl,?_,?_,?_,?_,?_,?_,?_,?_,?_,hlt,by simp [marks],?_,fun n c hn=>by simp [s0,lookN] at hn⟩
 ·intro i hi hi'
  have:i=0:=by simp at hi'; exact hi'
  subst this
  refine ⟨by simp [s0,hs];omega,fun t=>?_,fun d hd=>by simp at hd⟩
  simp only [s0,List.getElem_cons_zero]
  rw [look_argTs]
  split
  ·rename_i hx
   simp only [List.length_map] at hx
   have:=hr t (by omega)
   simp only [Nat.sub_zero,List.getElem_map]
   refine .d (RepD.mono (fun b o c hc hm=>⟨hc,fun ht=>hm (htot b o ht)⟩) ?_)
   rw [Array.getD_eq_getD_getElem?] at this ⊢
   rw [Array.getElem?_append_left (by rw [hs];omega)];exact this
  ·exact .dead
 all_goals first | (intro a b h;simp [s0,lookN] at h) | (intro a h;simp [s0] at h) | (intro a b c d h;simp [s0,lookN] at h)
theorem TCall_pure {f:FuncId} {args:List V} {ds rs:List D} {k:V→Sa→Prop} (h:PureOK P f ds rs) (hd:toDs V.toD args=some ds) (hk:k (mkRes (rs.map .d)) s):TCall P p f args s k:=by
 intro Mo m as w n vs r hR hargs
 obtain ⟨h1,h2⟩:=toDs_spec hd
 have hlt:∀ b o,Tot Mo s.bx s.ow m b o→b<w.heap.size:=fun b o ht=>tot_lt hR ht
 refine callsIn_round ((h _ w n vs hlt (by rw [hargs.1];exact h1.symm) (fun i hi=>(hargs.2 i (by omega)).toD (h2 i (by omega) hi))).mono ?_)
 rintro e w' ⟨c,rfl,hb,hv⟩
 exact ⟨c,_,m,s,rfl,hk,hR.below hb,hv m,Step.of_below hb,rfl⟩
def Wk (s s' : Sa):Prop:=∀ Mo m as w,Rel Mo m s as w→∃ m',Rel Mo m' s' as w∧Step m s w m' s' w∧rdOf m' s' = rdOf m s
theorem Wk.refl:Wk s s:=fun _ m _ _ hR=>⟨m,hR,Step.refl _ _ _,rfl⟩
theorem TC.weaken {c:Code} {s' : Sa} {Q:Ex→Sa→Prop} (hw:Wk s s') (h:TC P p c s' Q):TC P p c s Q:=fun Mo m a sv w n hR=>by
 obtain ⟨m',hR',hst,hrd⟩:=hw Mo m _ w hR
 have:=h Mo m' a sv w n hR'
 rw [hrd] at this
 exact wpIn_mono this (fun e a2 w2 hp=>hp.step hst hrd .refl)
theorem Wk.of {s' : Sa} (hrd:s'.rd=s.rd) (hn:s'.n=s.n) (hlp:s'.lp=s.lp) (hts:∀ t,lkT t s'.ts=lkT t s.ts∨lkT t s'.ts = .dead)
  (hsv:s'.sv=s.sv) (hbx:∀ nm c,lookN nm s'.bx=some c→lookN nm s.bx=some c) (how:∀ i∈s'.ow,i∈s.ow) (hvc:∀ n c,lookN n s'.vc=some c→lookN n s.vc=some c∧(n∈s.ow→n∈s'.ow)):Wk s s':=by
 intro Mo m as w hR
 have hmut:∀ b o,Mut s'.bx s'.ow m b o→Mut s.bx s.ow m b o:=by
  rintro b o (⟨nm,c,h1,h2⟩ | ⟨i,h1,h2⟩)
  ·exact .inl ⟨nm,c,hbx nm c h1,h2⟩
  ·exact .inr ⟨i,how i h1,h2⟩
 have hst:Stab w (Tot Mo s.bx s.ow m) w (Tot Mo s'.bx s'.ow m):=fun b o c hc hm=>⟨hc,fun ht=>hm (ht.imp id (hmut b o))⟩
 refine ⟨m,⟨by rw [hsv];exact hR.len,?_,?_,?_,?_,?_,?_,?_,?_,?_,hR.mo,hR.mks,?_,fun n c hn=>⟨(hvc n c hn).2 (hR.vec n c (hvc n c hn).1).1,(hR.vec n c (hvc n c hn).1).2.mono hst rfl rfl (fun _ _ _ _ _ hv=>hv) (fun b c T hc=>⟨c,hc,rfl⟩)⟩⟩,⟨.of_below (Below.refl _ _),fun b o _ h=>hmut b o h,fun b _ h=>by rw [hlp] at h;exact h,hrd,by rw [hsv],fun _ _=>⟨rfl,fun _ _=>rfl⟩⟩,by simp only [rdOf,hrd]⟩
 ·intro i hi hi'
  cases i with
  | zero =>
   have h0:=hR.fr 0 (by simp) hi'
   refine ⟨by simp only [List.getElem_cons_zero,hn];exact h0.size,fun t=>?_,h0.def_⟩
   simp only [List.getElem_cons_zero]
   rcases hts t with h | h
   ·rw [h];exact hst.mono_rep (h0.ts t)
   ·rw [h];exact .dead
  | succ i =>
   have h0:=hR.fr (i+1) (by simpa [hsv] using hi) hi'
   have e:(({ rd:=s'.rd,n:=s'.n,ts:=s'.ts }:Fr)::s'.sv)[i+1]=(({ rd:=s.rd,n:=s.n,ts:=s.ts }:Fr)::s.sv)[i+1]'(by simpa [hsv] using hi):=by simp [hsv]
   rw [e];exact h0.stab hst
 ·intro nm c h
  obtain ⟨cs,T,hb⟩:=hR.box nm c (hbx nm c h)
  exact ⟨cs,T,hb.heap,hb.size,hb.leafs,fun i hi=>hst.mono_rep (hb.rep i hi)⟩
 ·exact fun a b c d h1 h2 e=>hR.inj a b c d (hbx _ _ h1) (hbx _ _ h2) e
 ·exact fun i hi hn=>hR.oww i (how i hi) hn
 ·exact fun i hi j hj h1 h2 e=>hR.owx i (how i hi) j (how j hj) h1 h2 e
 ·exact fun i hi hn nm c h=>hR.owb i (how i hi) hn nm c (hbx nm c h)
 ·intro l q hl
  rw [hlp] at hl;exact hR.lps l q hl
 ·intro l q hl
  rw [hlp] at hl;exact hR.dep l q hl
 ·intro l q l' q' h1 h2 e
  rw [hlp] at h1 h2;exact hR.lpi l q l' q' h1 h2 e
 ·exact fun i hi hn=>hR.owm i (how i hi) hn
theorem wpIn_loop_ix {F:Fence} {Q:Exit→Act→World→Prop} {c:Code} {ι:Type} (I:ι→Act→World→Prop) (μ:ι→Nat)
  (round:∀ i a w,I i a w→c.wpIn F n P (Exit.then (fun a' w'=>∃ j,I j a' w' ∧ μ j<μ i) Q) a w):∀ i a w,I i a w→(Code.loop c).wpIn F n P Q a w:=by
 intro i0 a0 w0 h0 b k cs hro hb hr
 have key:∀ q i a w,μ i=q→I i a w →
   ∃ e a' w',Q e a' w' ∧ ArrivesIn (Machine.fenced P F) P (lone (b.atR a (.code c :: .inLoop c::k)) cs w) b k cs e a' w':=by
  intro q
  induction q using Nat.strongRecOn with
  | _ q ih =>
   intro i a w hq hI
   obtain ⟨e,a1,w1,h1,harr⟩:=round i a w hI b (.inLoop c::k) cs hro hb hr
   have pass:∀ e,e ≠ .normal→Exit.then (fun a' w'=>∃ j,I j a' w' ∧ μ j<μ i) Q e a1 w1→ArrivesIn (Machine.fenced P F) P (lone (b.atR a (.code c :: .inLoop c::k)) cs w) b (.inLoop c::k) cs e a1 w1 →
     ∃ e a' w',Q e a' w' ∧ ArrivesIn (Machine.fenced P F) P (lone (b.atR a (.code c :: .inLoop c::k)) cs w) b k cs e a' w':=fun e hne hx hy =>
    ⟨e,a1,w1,by cases e <;> first | exact absurd rfl hne | exact hx,.pass (x:=.inLoop c) rfl (fun _ _=>.inl hne) hy⟩
   cases e with
   | normal =>
    obtain ⟨j,hj,hlt⟩:=h1
    obtain ⟨e2,a2,w2,h2,harr2⟩:=ih (μ j) (hq ▸ hlt) j a1 w1 rfl hj
    exact ⟨e2,a2,w2,h2,.of_steps (StepsIn.trans harr (.one (fenced_calm hb hr rfl) stepR_inLoop)) harr2⟩
   | _=>exact pass _ (by simp) h1 harr
 obtain ⟨e,a',w',hq,harr⟩:=key _ i0 a0 w0 rfl h0
 exact ⟨e,a',w',hq,.of_steps (.one (fenced_calm hb hr rfl) stepR_loop) harr⟩
end Go.Ab
namespace Go.Ab
open Go Go.RowKit
variable {P:Program} {s:Sa} {p:Name}
theorem lkT_sub {ts ts' : List (Nat×V)} (h:∀ x∈ts',lkT x.1 ts=x.2) (t:Nat):lkT t ts' = lkT t ts∨lkT t ts' = .dead:=by
 induction ts' with
 | nil=>right;rfl
 | cons y l ih =>
  obtain ⟨t',v⟩:=y
  simp only [lkT]
  split
  ·rename_i e;subst e;left;exact (h (t',v) (by simp)).symm
  ·exact ih (fun x hx=>h x (by simp [hx]))
theorem lookN_sub {bx bx' : List (Name×V)} (h:∀ x∈bx',lookN x.1 bx=some x.2) (nm:Name) (c:V) (hl:lookN nm bx' = some c):lookN nm bx=some c:=by
 have:=h _ (lookN_mem hl);exact this
theorem Wk.lists {s' : Sa} (hrd:s'.rd=s.rd) (hn:s'.n=s.n) (hlp:s'.lp=s.lp) (hts:∀ x∈s'.ts,lkT x.1 s.ts=x.2)
  (hsv:s'.sv=s.sv) (hbx:∀ x∈s'.bx,lookN x.1 s.bx=some x.2) (how:∀ i∈s'.ow,i∈s.ow) (hvc:∀ n c,lookN n s'.vc=some c→lookN n s.vc=some c∧(n∈s.ow→n∈s'.ow)):Wk s s' :=
 Wk.of hrd hn hlp (lkT_sub hts) hsv (lookN_sub hbx) how hvc
end Go.Ab
namespace Go.Ab
open Go Go.RowKit
variable {P:Program} {w:World} {m:Mp} {Mo:Cells} {s:Sa} {as:List Act}
mutual
def V.soft (i:Name) (sz:Nat) (xs:List D):V→V
 | .own j z ys=>if j=i then .d (.sl ys) else .own j z ys
 | .vsl n=>if n=i then .own i sz xs else .vsl n
 | .vpt n o=>if n=i then .dead else .vpt n o
 | .fn f c=>.fn f (V.softL i sz xs c)
 | .agg c=>.agg (V.softL i sz xs c)
 | .tup c=>.tup (V.softL i sz xs c)
 | .d x=>.d x
 | .nil=>.nil
 | .ptr n o=>.ptr n o
 | .ref c=>.ref c
 | .yld l=>.yld l
 | .mref n=>.mref n
 | .mpc k l=>.mpc k l
 | .dead=>.dead
def V.softL (i:Name) (sz:Nat) (xs:List D):List V→List V
 | []=>[]
 | v::vs=>v.soft i sz xs::V.softL i sz xs vs
end
theorem V.softL_map (i:Name) (sz:Nat) (xs:List D) (vs:List V):V.softL i sz xs vs=vs.map (V.soft i sz xs):=by
 induction vs with
 | nil=>rfl
 | cons v vs ih=>simp [V.softL,ih]
theorem V.cells_soft (i:Name) (sz:Nat) (xs:List D) (v:V):(v.soft i sz xs).cells=v.cells.map (V.soft i sz xs):=by
 cases v with
 | d x=>cases x <;> simp [V.soft,V.cells,List.map_map,Function.comp_def]
 | own j sz xs=>simp only [V.soft];split <;> simp_all [V.cells,V.soft]
 | vsl j=>simp only [V.soft];split <;> simp_all [V.cells,V.soft]
 | vpt j o=>simp only [V.soft];split <;> simp_all [V.cells,V.soft]
 | agg c=>simp [V.soft,V.cells,V.softL_map]
 | _=>simp [V.soft,V.cells]
def Sa.soft (s:Sa) (i:Name):Sa:=match lookN i s.vc with
 | some c=>{ s with ts:=mapT (V.soft i c.1 c.2) s.ts,sv:=s.sv.map (fun f=>{ f with ts:=mapT (V.soft i c.1 c.2) f.ts }),bx:=s.bx.map (fun x=>(x.1,x.2.soft i c.1 c.2)),vc:=s.vc.filter (fun x=>x.1 != i) }
 | none=>s
def spareOf (m:Mp) (i:Name) (sz:Nat) (xs:List D):Nat×Nat×Nat:=if (m.vl i).2.2=0 then (0,0,0) else match (m.vl i).1 with
 | some a=>(a.block,a.off+xs.length * sz,a.off+(m.vl i).2.2 * sz)
 | none=>(0,0,0)
def Mp.soft (m:Mp) (i:Name) (sz:Nat) (xs:List D):Mp:={ m with ow:=fun j=>if j=i then spareOf m i sz xs else m.ow j }
theorem RepV.soft {M M' : Cells} {i:Name} {sz:Nat} {xs:List D} {v:V} {c:Value} (hs:Stab w M w M')
  (hi:RepV w M' (m.soft i sz xs) (.own i sz xs) (.slice (m.vl i).1 (m.vl i).2.1 (m.vl i).2.2)) (h:RepV w M m v c):RepV w M' (m.soft i sz xs) (v.soft i sz xs) c:=by
 induction h with
 | d h=>exact .d (h.mono hs)
 | nil=>exact .nil
 | own h hsz hsp =>
  simp only [V.soft];split
  ·exact .d (h.mono hs)
  ·rename_i hne
   exact .own (h.mono hs) hsz (spare_heap hsp (by simp [Mp.soft,hne]) (fun _ _ h=>h))
 | ptr=>exact .ptr
 | mref=>exact .mref
 | ref b off cv hcell hrep=>exact .ref b off cv (fun j hj=>⟨(hs _ _ _ (hcell j hj).1 (hcell j hj).2.2).1,(hcell j hj).2.1,(hs _ _ _ (hcell j hj).1 (hcell j hj).2.2).2⟩) (fun j hj=>(hrep j hj).mono hs)
 | fn hl _ ih =>
  simp only [V.soft,V.softL_map]
  exact .fn (by rw [hl,List.length_map]) (fun k hk=>by rw [List.getElem_map];exact ih k (by simpa using hk))
 | yld=>exact .yld
 | agg hl hlf _ ih =>
  simp only [V.soft,V.softL_map]
  exact .agg (by rw [hl,List.length_map]) (fun k hk=>hlf k (by simpa using hk)) (fun k hk=>by rw [List.getElem_map];exact ih k (by simpa using hk))
 | tup hl _ ih =>
  simp only [V.soft,V.softL_map]
  exact .tup (by rw [hl,List.length_map]) (fun k hk=>by rw [List.getElem_map];exact ih k (by simpa using hk))
 | vsl =>
  simp only [V.soft];split
  ·rename_i e;subst e;exact hi
  ·exact .vsl
 | vpt h =>
  simp only [V.soft];split
  ·exact .dead
  ·exact .vpt h
 | dead=>exact .dead
theorem BoxObj.soft {b:Nat} {c:V} {cs:Array Value} {T:TypeId} {i:Name} {sz:Nat} {xs:List D} (h:BoxObj w b c cs T):BoxObj w b (c.soft i sz xs) cs T:=by
 cases c <;> first | exact h | (simp only [V.soft];exact h) | (simp only [V.soft];split <;> exact h)
theorem Rel.soft2 (h:Rel Mo m s as w) (i:Name) {sz:Nat} {xs:List D} (hc:lookN i s.vc=some (sz,xs)):∃ m',Rel Mo m' (s.soft i) as w∧Step m s w m' (s.soft i) w∧m'.lp=m.lp ∧
  ∀ v c,RepV w (Tot Mo s.bx s.ow m) m v c→RepV w (Tot Mo (s.soft i).bx (s.soft i).ow m') m' (v.soft i sz xs) c:=by
 unfold Sa.soft
 simp only [hc]
 obtain ⟨hn,hv⟩:=h.vec i _ hc
 simp only at hv
 have hlen:=hv.len
 have hcap:=hv.cap
 have hmul:=Nat.mul_le_mul_right sz hcap
 have hreg:nonempty (spareOf m i sz xs)→nonempty (m.ow i)∧(spareOf m i sz xs).1=(m.ow i).1∧(spareOf m i sz xs).2.2=(m.ow i).2.2∧(m.ow i).2.1≤(spareOf m i sz xs).2.1:=by
  intro hne
  unfold spareOf at hne ⊢
  rcases hv.hd with hd | ⟨b,c,T,ha,hrow,_,_⟩
  ·rw [if_pos hd.1] at hne;simp [nonempty] at hne
  ·by_cases h0:(m.vl i).2.2=0
   ·rw [if_pos h0] at hne;simp [nonempty] at hne
   rw [if_neg h0] at hne ⊢
   rw [ha] at hne
   simp only [nonempty] at hne
   rw [ha,hrow]
   simp only [nonempty,Nat.zero_add]
   refine ⟨?_,trivial,trivial,Nat.zero_le _⟩
   omega
 have hmut:∀ b o,Mut (s.bx.map (fun x=>(x.1,x.2.soft i sz xs))) s.ow (m.soft i sz xs) b o→Mut s.bx s.ow m b o:=by
  rintro b o (⟨n,c,hl,e⟩ | ⟨j,hj,h1,h2,h3⟩)
  ·rw [lookN_map] at hl
   cases hl' : lookN n s.bx with
   | none=>rw [hl'] at hl;cases hl
   | some c'=>exact .inl ⟨n,c',hl',e⟩
  ·by_cases e:j=i
   ·subst e
    simp only [Mp.soft,if_true] at h1 h2 h3
    obtain ⟨_,g2,g3,g4⟩:=hreg (by unfold nonempty;omega)
    exact .inr ⟨j,hj,by rw [← g2];exact h1,by omega,by omega⟩
   ·simp only [Mp.soft,e,if_false] at h1 h2 h3
    exact .inr ⟨j,hj,h1,h2,h3⟩
 have hst:Stab w (Tot Mo s.bx s.ow m) w (Tot Mo (s.bx.map (fun x=>(x.1,x.2.soft i sz xs))) s.ow (m.soft i sz xs)):=fun b o c hc hm=>⟨hc,fun ht=>hm (ht.imp id (hmut b o))⟩
 have hown:RepV w (Tot Mo (s.bx.map (fun x=>(x.1,x.2.soft i sz xs))) s.ow (m.soft i sz xs)) (m.soft i sz xs) (.own i sz xs) (.slice (m.vl i).1 (m.vl i).2.1 (m.vl i).2.2):=by
  rw [hlen]
  have hd:=hv.hd
  refine .own ?_ hv.sz ?_
  ·rcases hd with hd | ⟨b,c,T,ha,hrow,hblk,hsz⟩
   ·have hx:xs=[]:=List.eq_nil_of_length_eq_zero (by omega)
    subst hx
    exact RepD.sl (xs:=[]) (a:=(m.vl i).1) 0 0 0 (fun _ _=>undef) (by simp) (by simp) (by simp) (by simp) (by simp) (by simp)
   ·have e0:(m.vl i).1=some ⟨b,0,none⟩:=ha
    obtain ⟨o0,ho0⟩:∃ o0:Nat,o0=0:=⟨0,rfl⟩
    rw [← ho0] at e0 hrow
    have hcell:∀ k (hk:k<xs.length) j (hj:j<xs[k].cells.length),∃ v,w.cell? ⟨b,o0+k * sz+j,none⟩=some v∧leaf v=true∧RepD w (Tot Mo s.bx s.ow m) (xs[k].cells)[j] v:=by
     intro k hk j hj
     have hsz':=hv.sz _ (List.getElem_mem hk)
     rw [hsz'] at hj
     have hz0:0<sz:=by omega
     have hlt:=mul_lt hk hj
     obtain ⟨v,h1,h2,h3⟩:=hv.cells (k * sz+j) (by rw [flatD_len hv.sz];exact hlt)
     rw [hrow] at h1
     simp only at h1
     rw [← Nat.add_assoc] at h1
     refine ⟨v,h1,h2,?_⟩
     have hg:=flatD_get hz0 hv.sz (k * sz+j)
     have e1:(k * sz+j) / sz=k:=by rw [Nat.mul_comm,Nat.mul_add_div hz0,Nat.div_eq_of_lt hj,Nat.add_zero]
     have e2:(k * sz+j) % sz=j:=by rw [Nat.mul_comm,Nat.mul_add_mod,Nat.mod_eq_of_lt hj]
     rw [e1,e2,List.getElem?_eq_getElem (by rw [flatD_len hv.sz];exact hlt),List.getElem?_eq_getElem hk,Option.bind_some,List.getElem?_eq_getElem (by omega),Option.some.injEq] at hg
     rw [← hg];exact h3
    have hnm:∀ k (hk:k<xs.length) j (hj:j<xs[k].cells.length),¬ Tot Mo (s.bx.map (fun x=>(x.1,x.2.soft i sz xs))) s.ow (m.soft i sz xs) b (o0+k * sz+j):=by
     intro k hk j hj ht
     have hsz':=hv.sz _ (List.getElem_mem hk)
     rw [hsz'] at hj
     have hlt:=mul_lt hk hj
     have hne:nonempty (m.ow i):=by rw [hrow];simp only [nonempty];omega
     rcases ht with ht | ⟨n,c,hl,e⟩ | ⟨q,hq,h1,h2,h3⟩
     ·exact h.owm i hn hne _ (by rw [hrow];exact ht)
     ·rw [lookN_map] at hl
      cases hl' : lookN n s.bx with
      | none=>rw [hl'] at hl;cases hl
      | some c'=>exact h.owb i hn hne n c' hl' (by rw [hrow];exact e)
     ·by_cases e:q=i
      ·subst e
       have h0 : ¬ (m.vl q).2.2=0:=by omega
       simp only [Mp.soft,if_true,spareOf,ha,if_neg h0] at h2
       omega
      ·simp only [Mp.soft,e,if_false] at h1 h2 h3
       exact e (h.owx q hq i hn (by unfold nonempty;omega) hne (by rw [hrow];exact h1))
    rw [e0]
    refine RepD.sl sz b o0 (fun k j=>(w.cell? ⟨b,o0+k * sz+j,none⟩).getD undef) hcap hv.mx (fun _=>rfl) (fun k hk=>hv.sz _ (List.getElem_mem hk)) (fun k hk j hj=>?_) (fun k hk j hj=>?_)
    ·obtain ⟨v,h1,h2,_⟩:=hcell k hk j hj
     rw [h1];exact ⟨rfl,h2,hnm k hk j hj⟩
    ·obtain ⟨v,h1,_,h3⟩:=hcell k hk j hj
     simp only [h1,Option.getD_some];exact h3.mono hst
  ·unfold Spare
   rcases hd with hd | ⟨b,c,T,ha,hrow,hblk,hsz⟩
   ·have hx:xs=[]:=List.eq_nil_of_length_eq_zero (by omega)
    cases ha:(m.vl i).1 with
    | none=>exact ⟨hd.1,by simp [Mp.soft,spareOf,ha]⟩
    | some a=>exact .inl ⟨by rw [hx,hd.1];rfl,by simp [Mp.soft,spareOf,ha,hx,hd.1]⟩
   ·rw [ha]
    by_cases h0:(m.vl i).2.2=0
    ·exact .inl ⟨by omega,by simp [Mp.soft,spareOf,h0]⟩
    exact .inr ⟨rfl,hcap,by simp [Mp.soft,spareOf,ha,h0],c,T,hblk,by simp only;omega⟩
 have hrep:∀ v c,RepV w (Tot Mo s.bx s.ow m) m v c→RepV w (Tot Mo (s.bx.map (fun x=>(x.1,x.2.soft i sz xs))) s.ow (m.soft i sz xs)) (m.soft i sz xs) (v.soft i sz xs) c:=fun v c hv=>RepV.soft hst hown hv
 have hbx:∀ n c,lookN n (s.bx.map (fun x=>(x.1,x.2.soft i sz xs)))=some c→∃ c',lookN n s.bx=some c' ∧ c=c'.soft i sz xs:=by
  intro n c hn
  rw [lookN_map] at hn
  cases hc:lookN n s.bx with
  | none=>simp [hc] at hn
  | some c'=>simp [hc] at hn;exact ⟨c',rfl,hn.symm⟩
 have how:∀ j,j≠i→(m.soft i sz xs).ow j=m.ow j:=fun j hj=>by simp [Mp.soft,hj]
 have howi:(m.soft i sz xs).ow i=spareOf m i sz xs:=by simp [Mp.soft]
 have hfr:∀ (f:Fr) (a:Act),FrOK w (Tot Mo s.bx s.ow m) m f a→FrOK w (Tot Mo (s.bx.map (fun x=>(x.1,x.2.soft i sz xs))) s.ow (m.soft i sz xs)) (m.soft i sz xs) { f with ts:=mapT (V.soft i sz xs) f.ts } a:=fun f a hf =>
  ⟨hf.size,fun t=>by rw [look_mapT _ (by simp [V.soft])];exact hrep _ _ (hf.ts t),hf.def_⟩
 refine ⟨m.soft i sz xs,⟨by simpa using h.len,?_,?_,?_,?_,?_,?_,fun l p hl=>by
   obtain ⟨r,a,hx⟩:=h.lps l p hl
   exact ⟨r,a,hx.heap,hx.ps,hx.assign,hx.body,hx.own,hx.tmps,hx.stat⟩,h.dep,h.lpi,h.mo,h.mks,?_,?_⟩,
  ⟨.of_below (Below.refl _ _),fun b o _ hm=>hmut b o hm,fun b _ hl=>hl,rfl,by simp [List.map_map,Function.comp_def],fun _ _=>⟨rfl,fun _ _=>rfl⟩⟩,rfl,hrep⟩
 ·intro k hk hk'
  have hk0:k<(({ rd:=s.rd,n:=s.n,ts:=s.ts }:Fr)::s.sv).length:=by simpa using hk
  have:=hfr _ _ (h.fr k hk0 hk')
  cases k with
  | zero=>exact this
  | succ k=>simpa using this
 ·intro n c hn'
  obtain ⟨c',hc',rfl⟩:=hbx n c hn'
  obtain ⟨cs,T,hb⟩:=h.box n c' hc'
  refine ⟨cs,T,hb.heap.soft,by rw [V.cells_soft,List.length_map];exact hb.size,fun k hk=>hb.leafs k (by simpa [V.cells_soft] using hk),fun k hk=>?_⟩
  have hk' : k<c'.cells.length:=by simpa [V.cells_soft] using hk
  have e:(c'.soft i sz xs).cells[k]=(c'.cells[k]).soft i sz xs:=by simp [V.cells_soft]
  rw [e]
  exact hrep _ _ (hb.rep k hk')
 ·intro n c n' c' hn1 hn2 e
  obtain ⟨d,hd,_⟩:=hbx n c hn1
  obtain ⟨d',hd',_⟩:=hbx n' c' hn2
  exact h.inj n d n' d' hd hd' e
 ·intro j hj hne
  by_cases e:j=i
  ·subst e
   rw [howi] at hne ⊢
   obtain ⟨g1,g2,g3,_⟩:=hreg hne
   rw [g2,g3];exact h.oww j hj g1
  ·rw [how j e] at hne ⊢; exact h.oww j hj hne
 ·intro j hj k hk h1 h2 e
  have key:∀ j,nonempty ((m.soft i sz xs).ow j)→nonempty (m.ow j)∧((m.soft i sz xs).ow j).1=(m.ow j).1:=fun j hne=>by
   by_cases e:j=i
   ·subst e;rw [howi] at hne ⊢; exact ⟨(hreg hne).1,(hreg hne).2.1⟩
   ·rw [how j e] at hne ⊢; exact ⟨hne,rfl⟩
  obtain ⟨a1,a2⟩:=key j h1
  obtain ⟨b1,b2⟩:=key k h2
  exact h.owx j hj k hk a1 b1 (by rw [← a2,← b2];exact e)
 ·intro j hj hne n c hn'
  obtain ⟨d,hd,_⟩:=hbx n c hn'
  by_cases e:j=i
  ·subst e
   rw [howi] at hne ⊢
   obtain ⟨g1,g2,_⟩:=hreg hne
   rw [g2];exact h.owb j hj g1 n d hd
  ·rw [how j e] at hne ⊢; exact h.owb j hj hne n d hd
 ·intro j hj hne o
  by_cases e:j=i
  ·subst e
   rw [howi] at hne ⊢
   obtain ⟨g1,g2,_⟩:=hreg hne
   rw [g2];exact h.owm j hj g1 o
  ·rw [how j e] at hne ⊢; exact h.owm j hj hne o
 ·intro n c hn'
  rw [lookN_filter (q:=fun j=>j != i)] at hn'
  split at hn'
  ·rename_i e
   have e:n≠i:=by simpa using e
   exact ⟨(h.vec n c hn').1,(h.vec n c hn').2.mono hst rfl (how n e) (fun _ _ _ _ _ hv=>hv) (fun b c T hc=>⟨c,hc,rfl⟩)⟩
  ·cases hn'
theorem Rel.soft (h:Rel Mo m s as w) (i:Name):∃ m',Rel Mo m' (s.soft i) as w∧Step m s w m' (s.soft i) w∧m'.lp=m.lp:=by
 cases hc:lookN i s.vc with
 | none =>
  have e:s.soft i=s:=by unfold Sa.soft;rw [hc]
  rw [e]
  exact ⟨m,h,Step.refl _ _ _,rfl⟩
 | some c =>
  obtain ⟨m',h1,h2,h3,_⟩:=h.soft2 i (sz:=c.1) (xs:=c.2) hc
  exact ⟨m',h1,h2,h3⟩
theorem soft_rd {s:Sa} {i:Name}:(s.soft i).rd=s.rd:=by unfold Sa.soft;split <;> rfl
theorem TCallT.soft {kt:TypeId→V→Sa→Prop} {p:Name} {f:FuncId} {args:List V} {k:V→Sa→Prop} {i:Name} {sz:Nat} {xs:List D} (hc:lookN i s.vc=some (sz,xs)) (h:TCallT P kt p f (V.softL i sz xs args) (s.soft i) k):TCallT P kt p f args s k:=by
 intro Mo m as w n vs r hR hargs
 obtain ⟨m',h1,h2,h3,h4⟩:=hR.soft2 i hc
 have hrd:rdOf m' (s.soft i)=rdOf m s:=by simp only [rdOf,soft_rd,h3]
 refine (h Mo m' as w n vs r h1 ⟨by rw [hargs.1,V.softL_map,List.length_map],fun j hj=>?_⟩).mono ?_
 ·have hj' : j<args.length:=by rw [V.softL_map,List.length_map] at hj;exact hj
  have e:(V.softL i sz xs args)[j]=(args[j]).soft i sz xs:=by simp [V.softL_map]
  rw [e]
  exact h4 _ _ (hargs.2 j hj')
 ·rintro e w' (⟨c,v,m2,s2,rfl,k1,k2,k3,k4,k5⟩ | ⟨t,c,v,m2,s2,rfl,k1,k2,k3,k4,k5⟩)
  ·exact .inl ⟨c,v,m2,s2,rfl,k1,k2,k3,h2.trans k4,k5.trans hrd⟩
  ·exact .inr ⟨t,c,v,m2,s2,rfl,k1,k2,k3,h2.trans k4,k5.trans hrd⟩
theorem Wk_soft (s:Sa) (i:Name):Wk s (s.soft i):=fun Mo m as w hR=>by
 obtain ⟨m',h1,h2,h3⟩:=hR.soft i
 refine ⟨m',h1,h2,?_⟩
 have:(s.soft i).rd=s.rd:=by unfold Sa.soft;split <;> rfl
 simp only [rdOf,this,h3]
end Go.Ab
namespace Go.Ab
open Go Go.RowKit
variable {P:Program} {w w' : World} {m:Mp} {Mo:Cells} {s:Sa} {as:List Act} {p:Name}
theorem Rel.recell (h:Rel Mo m s as w) {n:Name} {c:List V} {off:Nat} {v v0:V} (hn:lookN n s.bx=some (.agg c)) (h0:c[off]? = some v0) (hv:∀ x,RepV w (Tot Mo s.bx s.ow m) m v0 x→RepV w (Tot Mo s.bx s.ow m) m v x) :
  Rel Mo m { s with bx:=setN n (.agg (c.set off v)) s.bx } as w∧Step m s w m { s with bx:=setN n (.agg (c.set off v)) s.bx } w:=by
 have hin:∀ k d,lookN k (setN n (.agg (c.set off v)) s.bx)=some d→∃ d',lookN k s.bx=some d':=fun k d hk=>by
  grind [lookN_setN']
 have hmut:∀ b o,Mut (setN n (.agg (c.set off v)) s.bx) s.ow m b o→Mut s.bx s.ow m b o:=by
  rintro b o (⟨nm,d,h1,h2⟩ | h1)
  ·obtain ⟨d',h3⟩:=hin nm d h1;exact .inl ⟨nm,d',h3,h2⟩
  ·exact .inr h1
 have hst:Stab w (Tot Mo s.bx s.ow m) w (Tot Mo (setN n (.agg (c.set off v)) s.bx) s.ow m):=fun b o x hx hm=>⟨hx,fun ht=>hm (ht.imp id (hmut b o))⟩
 have hall:∀ x:V,(∀ n∈x.bxs,m.bx n=m.bx n)∧(∀ i∈x.ows,∀ sz y,Spare w m i sz y→Spare w m i sz y)∧(∀ l∈x.lps,m.lp l=m.lp l):=fun x=>⟨fun _ _=>rfl,fun _ _ _ _ hs=>hs,fun _ _=>rfl⟩
 have mono:∀ {u:V} {x:Value},RepV w (Tot Mo s.bx s.ow m) m u x→RepV w (Tot Mo (setN n (.agg (c.set off v)) s.bx) s.ow m) m u x:=fun hu=>hu.mono hst (fun _ _=>rfl) (fun _ _ _ _ hs=>hs) (fun _ _=>rfl)
 refine ⟨h.remap (s':={ s with bx:=setN n (.agg (c.set off v)) s.bx }) rfl rfl rfl rfl rfl hst ⟨fun t=>hall _,fun g hg t=>hall _,fun n d hd=>hall _⟩ (Nat.le_refl _) (fun _ _ ho _=>ho) (fun _ _ _=>rfl) ?_ ?_ h.oww h.owx ?_ h.owm ?_,
  ⟨.of_below (Below.refl _ _),fun b o _ hx=>hmut b o hx,fun b _ hl=>hl,rfl,rfl,fun _ _=>⟨rfl,fun _ _=>rfl⟩⟩⟩
 ·intro k d hk
  rcases lookN_setN' hk with ⟨rfl,rfl⟩ | ⟨_,hk⟩
  ·obtain ⟨cs,T,hb⟩:=h.box _ _ hn
   have hlen:(V.agg (c.set off v)).cells.length=(V.agg c).cells.length:=by simp [V.cells]
   refine ⟨cs,T,.mk (hb.heap.cells rfl) rfl,by rw [hb.size,hlen],fun i hi=>hb.leafs i (by grind),fun i hi=>?_⟩
   have hi' : i<(V.agg c).cells.length:=by grind
   have hr:=hb.rep i hi'
   grind [V.cells]
  ·obtain ⟨cs,T,hb⟩:=h.box k d hk
   exact ⟨cs,T,hb.heap,hb.size,hb.leafs,fun i hi=>mono (hb.rep i hi)⟩
 ·intro a b a' b' h1 h2 e
  obtain ⟨d1,h3⟩:=hin _ _ h1
  obtain ⟨d2,h4⟩:=hin _ _ h2
  exact h.inj a d1 a' d2 h3 h4 e
 ·intro i hi hni k d hk
  obtain ⟨d',hk'⟩:=hin k d hk
  exact h.owb i hi hni k d' hk'
 ·intro k e hk
  obtain ⟨g1,g2⟩:=h.vec k e hk
  exact ⟨g1,g2.mono hst rfl rfl (fun _ _ _ _ _ hv=>hv) (fun b c T hc=>⟨c,hc,rfl⟩)⟩
def Sa.claimCell (s:Sa) (n:Name) (off:Nat) (i:Name) (sz:Nat):Sa:={ s.strip i with ow:=i::(s.strip i).ow,bx:=match lookN n s.bx with
 | some (.agg c)=>setN n (.agg ((V.stripL i c).set off (.own i sz []))) (s.strip i).bx
 | _=>(s.strip i).bx }
theorem stripL_get {i:Name}:∀ {c:List V} {k:Nat},(V.stripL i c)[k]? = (c[k]?).map (V.strip i)
 | [],k=>by rfl
 | v::c,0=>by rfl
 | v::c,k+1=>by simp [V.stripL,stripL_get (c:=c) (k:=k)]
theorem Wk_claimCell {n:Name} {off:Nat} {i:Name} {sz:Nat} {c:List V} (hn:lookN n s.bx=some (.agg c)) (h0:c[off]? = some .nil):Wk s (s.claimCell n off i sz):=fun Mo m as w hR=>by
 obtain ⟨m',r1,r2,r3,r4,r5,r6,r7⟩:=hR.claim (RepV.nil) i (some sz)
 simp only [Sa.claim] at r1 r2 r3 r6 r7
 have hb:lookN n (s.strip i).bx=some (.agg (V.stripL i c)):=by
  simp only [Sa.strip,lookN_map,hn,Option.map_some,V.strip]
 have hc:(V.stripL i c)[off]? = some .nil:=by rw [stripL_get,h0];rfl
 obtain ⟨q1,q2⟩:=r1.recell (v:=.own i sz []) hb hc (fun x hx=>by cases hx;grind)
 have e:s.claimCell n off i sz={ ({ s.strip i with ow:=i::(s.strip i).ow }:Sa) with bx:=setN n (.agg ((V.stripL i c).set off (.own i sz []))) (s.strip i).bx }:=by
  simp only [Sa.claimCell,hn]
 rw [e]
 exact ⟨m',q1,r3.trans q2,by simp only [rdOf,r5];rfl⟩
def Sa.claimVec (s:Sa) (n:Name) (off:Nat) (i:Name) (sz:Nat):Sa:={ s.strip i with ow:=i::(s.strip i).ow,vc:=(i,(sz,[]))::(s.strip i).vc,bx:=match lookN n s.bx with
 | some (.agg c)=>setN n (.agg ((V.stripL i c).set off (.vsl i))) (s.strip i).bx
 | _=>(s.strip i).bx }
theorem Wk_claimVec {n:Name} {off:Nat} {i:Name} {sz:Nat} {c:List V} (hn:lookN n s.bx=some (.agg c)) (h0:c[off]? = some .nil):Wk s (s.claimVec n off i sz):=fun Mo m as w hR=>by
 have h1:=(hR.strip i).own i (0,0,0) Sa.strip_ow (Sa.strip_all s i) (fun hn=>absurd hn (by simp [nonempty])) (fun b o c hcell hm=>⟨hcell,fun hx=>hm (tot_empty hx)⟩)
 obtain ⟨m1,hm1⟩:∃ m1:Mp,m1={ m with ow:=fun j=>if j=i then (0,0,0) else m.ow j }:=⟨_,rfl⟩
 rw [← hm1] at h1
 have hst1:Step m s w m1 { s.strip i with ow:=i::(s.strip i).ow } w:=by
  refine ⟨.of_below (Below.refl _ _),fun b o _ hm=>?_,fun b _ hl=>?_,rfl,by simp [Sa.strip,List.map_map,Function.comp_def],fun _ _=>by rw [hm1];exact ⟨rfl,fun _ _=>rfl⟩⟩
  ·rw [hm1] at hm
   have:=tot_empty (Mo:=fun _ _=>False) (.inr hm)
   rcases this with h0 | h0
   ·grind
   ·exact mut_strip h0
  ·rw [hm1] at hl;exact hl
 have hvc:lookN i (s.strip i).vc=none:=by
  simp only [Sa.strip]
  rw [lookN_filter (q:=fun j=>j != i)];simp
 have h2:=h1.addVec i (none,0,0) sz [] ⟨(Sa.strip_vns s i).ts,(Sa.strip_vns s i).sv,(Sa.strip_vns s i).bx⟩ hvc List.mem_cons_self ⟨.inl ⟨by simp,by simp_all⟩,by simp,by simp,by simp,by simp,by simp,fun j hj=>by simp [flatD] at hj⟩
 have hst2:Step m1 { s.strip i with ow:=i::(s.strip i).ow } w { m1 with vl:=fun j=>if j=i then (none,0,0) else m1.vl j } { s.strip i with ow:=i::(s.strip i).ow,vc:=(i,(sz,[]))::(s.strip i).vc } w :=
  ⟨.of_below (Below.refl _ _),fun b o _ h=>h,fun b _ h=>h,rfl,rfl,fun _ _=>⟨rfl,fun _ _=>rfl⟩⟩
 have hb:lookN n (s.strip i).bx=some (.agg (V.stripL i c)):=by
  simp only [Sa.strip,lookN_map,hn,Option.map_some,V.strip]
 have hc:(V.stripL i c)[off]? = some .nil:=by rw [stripL_get,h0];rfl
 obtain ⟨q1,q2⟩:=h2.recell (v:=.vsl i) hb hc (fun x hx=>by
  cases hx
  have:=@RepV.vsl w (Tot Mo (s.strip i).bx (i::(s.strip i).ow) { m1 with vl:=fun j=>if j=i then (none,0,0) else m1.vl j }) { m1 with vl:=fun j=>if j=i then (none,0,0) else m1.vl j } i
  grind)
 have e:s.claimVec n off i sz={ ({ s.strip i with ow:=i::(s.strip i).ow,vc:=(i,(sz,[]))::(s.strip i).vc }:Sa) with bx:=setN n (.agg ((V.stripL i c).set off (.vsl i))) (s.strip i).bx }:=by
  simp only [Sa.claimVec,hn]
 rw [e]
 exact ⟨_,q1,(hst1.trans hst2).trans q2,by simp only [rdOf,hm1];rfl⟩
end Go.Ab
namespace Go.Ab
open Go Go.RowKit
variable {P:Program} {w w' : World} {m:Mp} {Mo:Cells} {s:Sa} {as:List Act} {p:Name}
theorem Rel.vecPut (h:Rel Mo m s as w) {n:Name} {c:Nat×List D} (hc:lookN n s.vc=some c) {ys:List D}
  (k1:w'.os=w.os∧w'.tape=w.tape∧w'.output=w.output∧w.heap.size≤w'.heap.size)
  (k2:∀ b,b<w.heap.size→(nonempty (m.ow n)→b≠(m.ow n).1)→w'.heap[b]? = w.heap[b]?)
  (k3:nonempty (m.ow n)→∀ c T,w.heap[(m.ow n).1]? = some (.cells c T (0,0))→∃ c',w'.heap[(m.ow n).1]? = some (.cells c' T (0,0))∧c'.size=c.size∧∀ o,(o<(m.ow n).2.1∨(m.ow n).2.2≤o)→c'[o]? = c[o]?)
  (hvec:VecOK w' (Tot Mo s.bx s.ow m) m n c.1 ys) :
  Rel Mo m { s with vc:=setN n (c.1,ys) s.vc } as w' ∧ Step m s w m { s with vc:=setN n (c.1,ys) s.vc } w':=by
 obtain ⟨kos,ktape,kout,ksize⟩:=k1
 have hn:=(h.vec n c hc).1
 have blk:∀ (b:Nat) (c:Array Value) (T:TypeId) (f:Nat×Nat),w.heap[b]? = some (.cells c T f)→∃ c',w'.heap[b]? = some (.cells c' T f)∧c'.size=c.size∧∀ o,¬ Mut s.bx s.ow m b o→c'[o]? = c[o]?:=by
  intro b c T f hb
  have hlt:=(Array.getElem?_eq_some_iff.1 hb).1
  by_cases hne:nonempty (m.ow n)∧b=(m.ow n).1
  ·obtain ⟨hne,rfl⟩:=hne
   obtain ⟨c0,T0,h0,_⟩:=h.oww n hn hne
   rw [h0] at hb;cases hb
   obtain ⟨c',h1,h2,h3⟩:=k3 hne _ _ h0
   refine ⟨c',h1,h2,fun o ho=>h3 o ?_⟩
   by_cases hin:(m.ow n).2.1≤o∧o<(m.ow n).2.2
   ·exact absurd (.inr ⟨n,hn,rfl,hin.1,hin.2⟩) ho
   grind
  grind
 have hsh:Shape w w':=fun b c T hb=>by
  grind
 have hst:Stab w (Tot Mo s.bx s.ow m) w' (Tot Mo s.bx s.ow m):=by
  intro b j x hx hm
  refine ⟨?_,hm⟩
  have hlt:=World.block_lt_of_cell? w _ hx
  simp only at hlt
  by_cases hne:nonempty (m.ow n)∧b=(m.ow n).1
  ·obtain ⟨hne,rfl⟩:=hne
   obtain ⟨c0,T0,h0,_⟩:=h.oww n hn hne
   grind [cell_of_block]
  grind [World.cell?_of_block]
 have hall:∀ x:V,(∀ n∈x.bxs,m.bx n=m.bx n)∧(∀ i∈x.ows,∀ sz y,Spare w m i sz y→Spare w' m i sz y)∧(∀ l∈x.lps,m.lp l=m.lp l):=fun x =>
  ⟨fun _ _=>rfl,fun i _ sz y hs=>spare_shape hs rfl hsh,fun _ _=>rfl⟩
 refine ⟨h.remap (s':={ s with vc:=setN n (c.1,ys) s.vc }) rfl rfl rfl rfl rfl hst ⟨fun t=>hall _,fun g hg t=>hall _,fun n d hd=>hall _⟩
  ksize (fun b o ho hno=>?_) (fun _ _ _=>rfl) ?_ h.inj ?_ h.owx h.owb h.owm ?_,⟨kos,ktape,kout,ksize,fun b hb hC _=>?_,fun b c T f hb _=>blk b c T f hb⟩,fun _ _ _ hm=>hm,fun b _ hl=>hl,rfl,rfl,fun _ _=>⟨rfl,fun _ _=>rfl⟩⟩
 ·have hlt:=(Array.getElem?_eq_some_iff.1 ho).1
  rw [k2 b hlt (fun h1 h2=>by
   obtain ⟨c,T,h3,_⟩:=h.oww n hn h1
   rw [← h2,ho] at h3;cases h3;exact hno _ _ _ rfl)];exact ho
 ·intro k d hl
  obtain ⟨ds,T',hd'⟩:=h.box k d hl
  have hw:w'.heap[m.bx k]? = w.heap[m.bx k]?:=k2 _ hd'.heap.lt (fun h1 h2=>h.owb n hn h1 k d hl h2.symm)
  exact ⟨ds,T',hd'.heap.mono (fun o ho _ _=>by rw [hw];exact ho),hd'.size,hd'.leafs,fun i hi=>(hd'.rep i hi).mono hst (fun _ _=>rfl) (fun i _ sz y hs=>spare_shape hs rfl hsh) (fun _ _=>rfl)⟩
 ·intro i hi hni
  obtain ⟨d',T',hd',hle'⟩:=h.oww i hi hni
  obtain ⟨d'',hd'',hs'⟩:=hsh _ _ _ hd'
  exact ⟨d'',T',hd'',by omega⟩
 ·intro k e hk
  rcases lookN_setN' hk with ⟨rfl,rfl⟩ | ⟨hkn,hk⟩
  ·exact ⟨hn,hvec⟩
  ·obtain ⟨g1,g2⟩:=h.vec k e hk
   refine ⟨g1,g2.mono hst rfl rfl (fun hnk o v _ _ hcell=>?_) hsh⟩
   have hlt:=World.block_lt_of_cell? w _ hcell
   rw [World.cell?_of_block (w:=w) (k2 _ hlt (fun h1 h2=>hkn (h.owx k g1 n hn hnk h1 h2)))];exact hcell
 ·exact k2 b hb (fun hne e=>hC (m.ow n).2.1 (.inr ⟨n,hn,e.symm,Nat.le_refl _,hne⟩))
def nm0:Name:=[987654]
def sbT (sz:Nat) (xs:List D):Sa:={ rd:=none,n:=1,ts:=[(0,.vsl nm0)],sv:=[],bx:=[],lp:=[],ow:=[nm0],vc:=[(nm0,(sz,xs))] }
def TurnK (sz:Nat) (ys rs:List D) (v:V) (s:Sa):Prop:=lookN nm0 s.vc=some (sz,ys)∧lkT 0 s.ts = .vsl nm0∧∃ vs,v=mkRes vs∧toDs V.toD vs=some rs
def TurnOK (P:Program) (f:FuncId) (sz:Nat) (xs ds ys rs:List D):Prop:=TCall P [] f (.vsl nm0::ds.map .d) (sbT sz xs) (TurnK sz ys rs)
theorem TCall_turn {f:FuncId} {n:Name} {args:List V} {sz:Nat} {xs ds ys rs:List D} {k:V→Sa→Prop} (hT:TurnOK P f sz xs ds ys rs) (hc:lookN n s.vc=some (sz,xs)) (ha:toDs V.toD args=some ds)
  (hk:k (mkRes (rs.map .d)) { s with vc:=setN n (sz,ys) s.vc }):TCall P p f (.vsl n::args) s k:=by
 intro Mo m as w cnt vs r hR hargs
 obtain ⟨hn,hv⟩:=hR.vec n _ hc
 simp only at hv
 obtain ⟨hsz,hrep⟩:=hargs
 simp only [List.length_cons] at hsz hrep
 have hv0:vs.getD 0 undef = .slice (m.vl n).1 (m.vl n).2.1 (m.vl n).2.2:=by
  have:=hrep 0 (by omega)
  simp only [List.getElem_cons_zero] at this
  generalize vs.getD 0 undef=c at this
  cases this;rfl
 obtain ⟨hdl,hdg⟩:=toDs_spec ha
 obtain ⟨M0,hM0⟩:∃ M0:Cells,M0=fun b o=>Tot Mo s.bx s.ow m b o∧¬ (nonempty (m.ow n)∧b=(m.ow n).1):=⟨_,rfl⟩
 obtain ⟨m0,hm0⟩:∃ m0:Mp,m0=⟨fun _=>0,fun _=>m.ow n,fun _=>0,fun _=>m.vl n⟩:=⟨_,rfl⟩
 have e1:m0.ow nm0=m.ow n:=by rw [hm0]
 have e2:m0.vl nm0=m.vl n:=by rw [hm0]
 have hst0:Stab w (Tot Mo s.bx s.ow m) w (Tot M0 [] [nm0] m0):=fun b o c hcell hno=>⟨hcell,fun ht=>by
  rcases ht with ht | ⟨k,c,hk,_⟩ | ⟨i,hi,h1,h2,h3⟩
  ·grind
  ·simp [lookN] at hk
  ·simp only [List.mem_singleton] at hi
   subst hi
   rw [e1] at h1 h2 h3
   exact hno (.inr (.inr ⟨n,hn,h1,h2,h3⟩))⟩
 have h0:Rel M0 m0 (sbT sz xs) [{ tmps:=#[.slice (m.vl n).1 (m.vl n).2.1 (m.vl n).2.2],defers:=[] }] w:=by
  refine ⟨rfl,?_,fun k c hk=>by simp [sbT,lookN] at hk,fun k c _ _ hk=>by simp [sbT,lookN] at hk,?_,?_,fun i hi hne k c hk=>by simp [sbT,lookN] at hk,fun l q hl=>by simp [sbT,lookN] at hl,fun l q hl=>by simp [sbT,lookN] at hl,fun l q _ _ hl=>by simp [sbT,lookN] at hl,?_,by simp [marks],?_,?_⟩
  ·intro i hi hi'
   have:i=0:=by grind
   subst this
   refine ⟨rfl,fun t=>?_,fun d hd=>by grind⟩
   simp only [sbT,List.getElem_cons_zero,lkT]
   split
   ·rename_i e;subst e
    have:=@RepV.vsl w (Tot M0 [] [nm0] m0) m0 nm0
    simp_all
   ·exact .dead
  ·intro i hi hne
   simp only [sbT,List.mem_singleton] at hi;subst hi
   rw [e1] at hne ⊢
   exact hR.oww n hn hne
  ·grind [sbT]
  ·intro b o ho
   rw [hM0] at ho
   rcases ho.1 with ho | ⟨k,c,hk,rfl⟩ | ⟨i,hi,h1,h2,h3⟩
   ·exact hR.mo b o ho
   ·obtain ⟨cs,T,hb⟩:=hR.box k c hk
    exact hb.heap.lt
   ·obtain ⟨c,T,h4,_⟩:=hR.oww i hi (by unfold nonempty;omega)
    rw [← h1];exact (Array.getElem?_eq_some_iff.1 h4).1
  ·intro i hi hne o ho
   simp only [sbT,List.mem_singleton] at hi;subst hi
   rw [e1] at hne ho
   rw [hM0] at ho
   exact ho.2 ⟨hne,rfl⟩
  ·intro k c hk
   simp only [sbT,lookN] at hk
   split at hk
   ·rename_i e;subst e;cases hk
    refine ⟨by simp [sbT],⟨by rw [e1,e2];exact hv.hd,by rw [e2];exact hv.len,by rw [e2];exact hv.cap,by rw [e2];exact hv.capm,hv.mx,hv.sz,fun j hj=>?_⟩⟩
    obtain ⟨v,g1,g2,g3⟩:=hv.cells j hj
    exact ⟨v,by rw [e1];exact g1,g2,g3.mono hst0⟩
   ·cases hk
 refine callsIn_round ((hT M0 m0 _ w cnt vs none h0 ⟨by simp;omega,fun i hi=>?_⟩).mono ?_)
 ·cases i with
  | zero =>
   simp only [List.getElem_cons_zero]
   rw [hv0,← e2];exact .vsl
  | succ i =>
   simp only [List.length_cons,List.length_map] at hi
   simp only [List.getElem_cons_succ,List.getElem_map]
   have h1:=hrep (i+1) (by omega)
   simp only [List.getElem_cons_succ] at h1
   exact .d ((h1.toD (hdg i (by omega) (by omega))).mono hst0)
 ·rintro e w1 ⟨c,v,m1,s1,he,⟨q1,q2,us,q3,q4⟩,hR1,hrep1,hstep,_⟩
  obtain ⟨hn1,hv1⟩:=hR1.vec nm0 _ q1
  simp only at hv1
  have hh:m1.vl nm0=m.vl n:=by
   have:=(hR1.fr 0 (by simp) (by simp)).ts 0
   simp only [List.getElem_cons_zero] at this
   rw [q2] at this
   have e3:(#[Value.slice (m.vl n).1 (m.vl n).2.1 (m.vl n).2.2]:Array Value).getD 0 undef = .slice (m.vl n).1 (m.vl n).2.1 (m.vl n).2.2:=rfl
   rw [e3] at this
   generalize hx:Value.slice (m.vl n).1 (m.vl n).2.1 (m.vl n).2.2=x at this
   cases this
   simp only [Value.slice.injEq] at hx
   obtain ⟨x1,x2,x3⟩:=hx
   exact (Prod.ext x1 (Prod.ext x2 x3)).symm
  have hreg:(m.vl n).2.2 * sz≠0→m1.ow nm0=m.ow n∧nonempty (m.ow n):=by
   intro hne
   have hd:=hv.hd
   have hd1:=hv1.hd
   rw [hh] at hd1
   rcases hd with hd | ⟨b,c,T,g1,g2,g3,g4⟩
   ·rw [hd.1] at hne;simp at hne
   ·rcases hd1 with hd1 | ⟨b',c',T',k1,k2,k3,k4⟩
    ·rw [hd1.1] at hne;simp at hne
    ·rw [g1] at k1;cases k1
     exact ⟨by rw [g2,k2],by rw [g2];simp only [nonempty];omega⟩
  have hreg2:nonempty (m.ow n)→m1.ow nm0=m.ow n:=by
   intro hne
   refine (hreg ?_).1
   rcases hv.hd with hd | ⟨b,c,T,g1,g2,g3,g4⟩
   ·rw [hd.2] at hne;simp [nonempty] at hne
   ·rw [g2] at hne;simp only [nonempty] at hne;omega
  have hC:∀ b,(nonempty (m.ow n)→b≠(m.ow n).1)→∀ o,¬ Mut (sbT sz xs).bx (sbT sz xs).ow m0 b o:=by
   rintro b hb o (⟨k,c,hk,_⟩ | ⟨i,hi,h1,h2,h3⟩)
   ·simp [sbT,lookN] at hk
   ·simp only [sbT,List.mem_singleton] at hi
    subst hi
    rw [e1] at h1 h2 h3
    exact hb (by unfold nonempty;omega) h1.symm
  have hL:∀ b,¬ LpB (sbT sz xs).lp m0 b:=by
   rintro b ⟨l,q,hl,_⟩
   simp [sbT,lookN] at hl
  have hst1:Stab w1 (Tot M0 s1.bx s1.ow m1) w1 (Tot Mo s.bx s.ow m):=fun b o c hcell hno=>⟨hcell,fun ht=>by
   by_cases hb:nonempty (m.ow n)∧b=(m.ow n).1
   ·obtain ⟨hne,rfl⟩:=hb
    rcases ht with ht | ⟨k,c,hk,h1⟩ | ⟨i,hi,h1,h2,h3⟩
    ·exact hR.owm n hn hne o ht
    ·exact hR.owb n hn hne k c hk h1
    ·have:i=n:=hR.owx i hi n hn (by unfold nonempty;omega) hne h1
     subst this
     refine hno (.inr (.inr ⟨nm0,hn1,?_⟩))
     rw [hreg2 hne];exact ⟨rfl,h2,h3⟩
   ·exact hno (.inl (by rw [hM0];exact ⟨ht,hb⟩))⟩
  have hvec:VecOK w1 (Tot Mo s.bx s.ow m) m n sz ys:=by
   refine ⟨?_,by rw [← hh];exact hv1.len,by rw [← hh];exact hv1.cap,by rw [← hh];exact hv1.capm,hv1.mx,hv1.sz,fun j hj=>?_⟩
   ·rcases hv.hd with hd | ⟨b,c,T,g1,g2,g3,g4⟩
    ·exact .inl hd
    ·obtain ⟨c',k1,k2,_⟩:=hstep.keeps.cel b c T _ g3 (hL b)
     exact .inr ⟨b,c',T,g1,g2,k1,by omega⟩
   ·obtain ⟨v,g1,g2,g3⟩:=hv1.cells j hj
    have hne:(m.vl n).2.2 * sz≠0:=by
     rw [flatD_len hv1.sz] at hj
     have:=Nat.mul_le_mul_right sz hv1.cap
     rw [hh] at this
     omega
    rw [(hreg hne).1] at g1
    exact ⟨v,g1,g2,g3.mono hst1⟩
  obtain ⟨r1,r2⟩:=hR.vecPut (w':=w1) hc (ys:=ys) ⟨hstep.keeps.os,hstep.keeps.tape,hstep.keeps.output,hstep.keeps.size⟩ (fun b hb hne=>hstep.keeps.blk b hb (hC b hne) (hL b))
   (fun hne c T hb=>by
    obtain ⟨c',k1,k2,k3⟩:=hstep.keeps.cel _ c T _ hb (hL _)
    refine ⟨c',k1,k2,fun o ho=>k3 o ?_⟩
    rintro (⟨k,c,hk,_⟩ | ⟨i,hi,h1,h2,h3⟩)
    ·simp [sbT,lookN] at hk
    ·simp only [sbT,List.mem_singleton] at hi
     subst hi
     rw [e1] at h2 h3
     omega) hvec
  refine ⟨c,_,m,_,he,hk,r1,?_,r2,rfl⟩
  rw [q3] at hrep1
  exact (mkRes_toD hrep1 q4 m).mono hst1 (fun _ _=>rfl) (fun _ _ _ _ h=>h) (fun _ _=>rfl)
end Go.Ab
namespace Go.Ab
open Go Go.RowKit
variable {P:Program} {w:World} {n:Nat} {Mo:Cells} {m:Mp} {s:Sa} {sa:List Act} {p:Name}
theorem drew_setCells' (b:Nat):∀ (vs:List Value) (o:Nat) (w:World),(w.setCells b o vs).drew=w.drew.setCells b o vs
 | [],_,_=>rfl
 | v::vs,o,w=>drew_setCells' b vs (o+1) _
theorem setCells_put (b:Nat):∀ (vs:List Value) (o:Nat) (w:World),w.setCells b o vs=putCells w b o vs
 | [],_,_=>rfl
 | v::vs,o,w=>setCells_put b vs (o+1) _
theorem flatD_take {sz:Nat}:∀ {xs:List D} (_:∀ x∈xs,x.cells.length=sz) (i:Nat),flatD (xs.take i)=(flatD xs).take (i * sz)
 | [],_,i=>by simp [flatD]
 | x::xs,h,0=>by simp [flatD]
 | x::xs,h,i+1=>by
  have hx:=h x List.mem_cons_self
  have ih:=flatD_take (xs:=xs) (fun y hy=>h y (List.mem_cons_of_mem _ hy)) i
  have e:∀ l,flatD (x::l)=x.cells++flatD l:=fun l=>by simp [flatD]
  rw [List.take_succ_cons,e,e,ih,List.take_append,hx,Nat.succ_mul,Nat.add_sub_cancel,List.take_of_length_le (l:=x.cells) (by rw [hx];omega)]
theorem flatD_drop {sz:Nat}:∀ {xs:List D} (_:∀ x∈xs,x.cells.length=sz) (i:Nat),flatD (xs.drop i)=(flatD xs).drop (i * sz)
 | [],_,i=>by simp [flatD]
 | x::xs,h,0=>by grind
 | x::xs,h,i+1=>by
  have hx:=h x List.mem_cons_self
  have ih:=flatD_drop (xs:=xs) (fun y hy=>h y (List.mem_cons_of_mem _ hy)) i
  grind [flatD,List.drop_append,List.drop_of_length_le]
def VRow (w:World) (M:Cells) (xs:List D) (L:List Value):Prop:=L.length=(flatD xs).length∧(∀ v∈L,leaf v=true)∧∀ j (hj:j<(flatD xs).length),RepD w M (flatD xs)[j] (L.getD j undef)
theorem VRow.app {M:Cells} {xs ys:List D} {L R:List Value} (h:VRow w M xs L) (h' : VRow w M ys R):VRow w M (xs++ys) (L++R) :=
 ⟨by rw [flatD_app,List.length_append,List.length_append,h.1,h'.1],fun v hv=>(List.mem_append.1 hv).elim (h.2.1 v) (h'.2.1 v),fun j hj=>flat_rep_app h.1 h.2.2 h'.2.2 j hj⟩
theorem VRow.take {M:Cells} {xs:List D} {L:List Value} {sz:Nat} (h:VRow w M xs L) (hs:∀ x∈xs,x.cells.length=sz) (i:Nat):VRow w M (xs.take i) (L.take (i * sz)):=by
 refine ⟨by rw [flatD_take hs,List.length_take,List.length_take,h.1],fun v hv=>h.2.1 v (List.mem_of_mem_take hv),fun j hj=>?_⟩
 have hj' : j<i * sz∧j<(flatD xs).length:=by rw [flatD_take hs,List.length_take] at hj;omega
 have e:(flatD (xs.take i))[j]? = ((flatD xs).take (i * sz))[j]?:=by rw [flatD_take hs]
 rw [List.getElem?_eq_getElem hj,List.getElem?_take_of_lt hj'.1,List.getElem?_eq_getElem hj'.2,Option.some.injEq] at e
 rw [e,List.getD_eq_getElem?_getD,List.getElem?_take_of_lt hj'.1,← List.getD_eq_getElem?_getD]
 exact h.2.2 j hj'.2
theorem VRow.drop {M:Cells} {xs:List D} {L:List Value} {sz:Nat} (h:VRow w M xs L) (hs:∀ x∈xs,x.cells.length=sz) (i:Nat):VRow w M (xs.drop i) (L.drop (i * sz)):=by
 refine ⟨by rw [flatD_drop hs,List.length_drop,List.length_drop,h.1],fun v hv=>h.2.1 v (List.mem_of_mem_drop hv),fun j hj=>?_⟩
 have hj' : i * sz+j<(flatD xs).length:=by rw [flatD_drop hs,List.length_drop] at hj;omega
 have e:(flatD (xs.drop i))[j]? = ((flatD xs).drop (i * sz))[j]?:=by rw [flatD_drop hs]
 rw [List.getElem?_eq_getElem hj,List.getElem?_drop,List.getElem?_eq_getElem hj',Option.some.injEq] at e
 rw [e,List.getD_eq_getElem?_getD,List.getElem?_drop,← List.getD_eq_getElem?_getD]
 exact h.2.2 _ hj'
theorem put2 (b o1 o2:Nat) (L R:List Value) (c:Array Value) (T:TypeId) (hb:w.heap[b]? = some (.cells c T (0,0))) (h1:o1+L.length≤c.size) (h2:o2+R.length≤c.size) :
  ∃ c',(putCells (putCells w b o1 L) b o2 R).heap[b]? = some (.cells c' T (0,0))∧c'.size=c.size ∧
   (∀ o,(o<o2∨o2+R.length≤o)→(o<o1∨o1+L.length≤o)→c'[o]? = c[o]?)∧(∀ j (hj:j<R.length),c'[o2+j]? = some R[j]) ∧
   (∀ j (hj:j<L.length),(o1+j<o2∨o2+R.length≤o1+j)→c'[o1+j]? = some L[j])∧(∀ k,k≠b→(putCells (putCells w b o1 L) b o2 R).heap[k]? = w.heap[k]?) ∧
   (putCells (putCells w b o1 L) b o2 R).os=w.os∧(putCells (putCells w b o1 L) b o2 R).tape=w.tape∧(putCells (putCells w b o1 L) b o2 R).output=w.output∧(putCells (putCells w b o1 L) b o2 R).heap.size=w.heap.size:=by
 obtain ⟨c1,p1,p2,p3,p4,p5,p6,p7,p8,p9⟩:=putCells_spec L w b o1 c T hb h1
 obtain ⟨c2,q1,q2,q3,q4,q5,q6,q7,q8,q9⟩:=putCells_spec R (putCells w b o1 L) b o2 c1 T p1 (by rw [p2];exact h2)
 exact ⟨c2,q1,q2.trans p2,fun o ho ho'=>(q3 o ho).trans (p3 o ho'),q4,fun j hj ho=>(q3 _ ho).trans (p4 j hj),fun k hk=>(q5 k hk).trans (p5 k hk),q6.trans p6,q7.trans p7,q8.trans p8,q9.trans p9⟩
theorem getD_parts {A B C:List Value} {j:Nat} (hj:j<(A++B++C).length) :
  (A++B++C).getD j undef=if j<A.length then A.getD j undef else if j<A.length+B.length then B.getD (j - A.length) undef else C.getD (j - (A.length+B.length)) undef:=by
 grind
structure InsOK (P:Program) (f:FuncId) (ts te ti:TypeId):Prop where
 pos:tsz P te≠0
 us:P.underlying ts=some (.slice te)
 ui:P.underlying ti=some (.int .i64)
 zc:isCells (tzero P te)=true
 zl:(tzero P te).cells.length=tsz P te
 shift:∀ (b off n c i vb voff m vc:Nat) (cs vs:List Value) (w:World) (_:i<n) (_:0<m) (_:n+m≤c) (_:n+m≤9223372036854775807) (_:vb≠b)
  (_:cs.length=n * tsz P te) (_:vs.length=m * tsz P te)
  (_:∀ j v,cs[j]? = some v→w.cell? ⟨b,off+j,none⟩=some v) (_:∀ j,j<(n+m) * tsz P te→(w.cell? ⟨b,off+j,none⟩).isSome=true) (_:∀ j,j<(n+m) * tsz P te→w.frozen? ⟨b,off+j,none⟩=false)
  (_:∀ j v,vs[j]? = some v→w.cell? ⟨vb,voff+j,none⟩=some v) (_:∀ v∈cs,v.oneCell' = true) (_:∀ v∈vs,v.oneCell' = true)
  (tA tB:TypeId) (kA kB:Nat) (_:w.shape? vb=some (tA,kA)) (_:w.shape? b=some (tB,kB)) (_:kA≠0) (_:w.frozen? ⟨b,kB,none⟩=false),
  Calls P f #[.slice (some ⟨b,off,none⟩) n c,.int .i64 i,.slice (some ⟨vb,voff,none⟩) m vc] w fun e w' =>
   e = .returned (.slice (some ⟨b,off,none⟩) (n+m) c)∧w' = (w.drew.setCells b (off+(i+m) * tsz P te) (cs.drop (i * tsz P te))).setCells b (off+i * tsz P te) vs
 fin:∀ (base:Option Addr) (n c vb voff m vc:Nat) (w w' : World) (v' : Value) (_:0<m) (_:n≤c)
  (_:∀ ty,(Builtin.append_ #[ts,ts] ty #[.slice base n c,.slice (some ⟨vb,voff,none⟩) m vc]).run P w = .ok v' w'),
  Calls P f #[.slice base n c,.int .i64 n,.slice (some ⟨vb,voff,none⟩) m vc] w fun e w1=>e = .returned v' ∧ w1=w'
 zero:∀ (base ya:Option Addr) (n c i vc:Nat) (w:World) (_:i≤n) (_:n≤c),Calls P f #[.slice base n c,.int .i64 i,.slice ya 0 vc] w fun e w1=>e = .returned (.slice base n c)∧w1=w
 grow:∀ (b off n c i vb voff m vc G:Nat) (cs vs:List Value) (ROW:Array Value) (w:World) (_:i<n) (_:0<m) (_:n≤c) (_:c<n+m)
  (_:cs.length=n * tsz P te) (_:vs.length=m * tsz P te)
  (_:∀ j v,cs[j]? = some v→w.cell? ⟨b,off+j,none⟩=some v)
  (_:∀ j v,vs[j]? = some v→w.cell? ⟨vb,voff+j,none⟩=some v) (_:∀ v∈cs,v.oneCell' = true) (_:∀ v∈vs,v.oneCell' = true)
  (_:n+m≤G) (_:n+m≤9223372036854775807) (_:(n+m) * tsz P te≤ROW.size)
  (_:∀ ty,(Builtin.append_ #[ts,ti] ty #[.slice (some ⟨b,off,none⟩) i c,.int .i64 ((n:Int)+(m:Int) - (i:Int))]).run P w = .ok (.slice (some ⟨w.heap.size,0,none⟩) (n+m) G) (w.drew.alloc (.cells ROW te))),
  Calls P f #[.slice (some ⟨b,off,none⟩) n c,.int .i64 i,.slice (some ⟨vb,voff,none⟩) m vc] w fun e w' =>
   e = .returned (.slice (some ⟨w.heap.size,0,none⟩) (n+m) G) ∧
   w' = (((w.alloc (.cells ROW te)).drew.setCells w.heap.size (i * tsz P te) vs).drew).setCells w.heap.size ((i+m) * tsz P te) (cs.drop (i * tsz P te))
theorem size_zeroCells (z:Array Value) (k:Nat):(Builtin.zeroCells z k).size=k * z.size:=by
 simp [Builtin.zeroCells,Nat.mul_comm]
theorem shape_of_block {b:Nat} {c:Array Value} {T:TypeId} {f:Nat×Nat} (h:w.heap[b]? = some (.cells c T f)):w.shape? b=some (T,c.size):=by
 simp [World.shape?,h]
theorem block_of_cell {b o:Nat} {v:Value} (h:w.cell? ⟨b,o,none⟩=some v):∃ c T f,w.heap[b]? = some (.cells c T f)∧c[o]? = some v:=by
 grind [World.cell?]
theorem TCall_ins {f:FuncId} {ts te ti:TypeId} {nm:Name} {xs ys:List D} {i:Int} {y:V} {k:V→Sa→Prop} (hI:InsOK P f ts te ti) (hc:lookN nm s.vc=some (tsz P te,xs)) (h0:0≤i) (h1:i≤xs.length)
  (hy:y.toD=some (.sl ys)) (hyr:∀ x∈ys,x.cells.length=tsz P te) (hb:(xs.length+ys.length) * tbytes P te≤140737488355328) (hmx:xs.length+ys.length≤9223372036854775807)
  (hk:k (.vsl nm) (s.vturn nm (tsz P te) (xs.take i.toNat++ys++xs.drop i.toNat))):TCall P p f [.vsl nm,.d (.v (.int .i64 i)),y] s k:=by
 intro Mo m sa w nn vs r hR hargs
 obtain ⟨ii,rfl⟩:∃ ii:Nat,i=(ii:Int):=⟨i.toNat,by omega⟩
 simp only [Int.toNat_natCast] at hk
 have hz:=hI.pos
 have hz0:0<tsz P te:=Nat.pos_of_ne_zero hz
 obtain ⟨hn,hvec⟩:=hR.vec nm _ hc
 simp only at hvec
 have hlen:=hvec.len
 have hcap:=hvec.cap
 have a0:=(hargs.2 0 (by simp)).vsl_inv
 obtain ⟨a1,_⟩:=(hargs.2 1 (by simp)).val
 have a2:=(hargs.2 2 (by simp)).toD hy
 obtain ⟨ya,yc,sz',yb,yo,cv,ec,hc1,hc2,ha,hsz,hcell,hrep⟩:=a2.sl_inv
 by_cases hne:ys=[]
 ·subst hne
  have evs:vs = #[.slice (m.vl nm).1 xs.length (m.vl nm).2.2,.int .i64 ii,.slice ya 0 yc]:=by
   have hs3:vs.size=3:=by rw [hargs.1];rfl
   apply Array.ext
   ·rw [hs3];rfl
   ·intro j hj _
    have hj3:j<3:=by rw [hs3] at hj;exact hj
    have gd:vs.getD j undef=vs[j]:=by rw [Array.getD_eq_getD_getElem?,Array.getElem?_eq_getElem hj];rfl
    rw [← gd]
    match j,hj3 with
    | 0,_=>rw [a0,hlen];rfl
    | 1,_=>exact a1
    | 2,_=>exact ec
  rw [evs]
  have e:xs.take ii++[]++xs.drop ii=xs:=by simp
  rw [e] at hk
  obtain ⟨g1,g2⟩:=hR.vecTurn nm (m.ow nm) (m.ow nm) (m.vl nm) (tsz P te) xs (w':=w) (fun _=>⟨hn,rfl⟩) ⟨rfl,rfl,rfl,Nat.le_refl _⟩ (fun _ _ _=>rfl) (fun _ c T h=>⟨c,h,rfl,fun _ _=>rfl⟩) (fun _=>.inl rfl) hvec.hd hlen hcap hvec.capm hvec.mx hvec.sz (fun j hj=>hvec.cells j hj)
  refine callsIn_round (callsIn_wide.2 ((hI.zero (m.vl nm).1 ya xs.length (m.vl nm).2.2 ii yc w (by omega) hcap).mono ?_))
  rintro e w1 ⟨rfl,rfl⟩
  refine ⟨_,.vsl nm,_,_,rfl,hk,g1,?_,g2,by simp only [rdOf];rfl⟩
  have:=@RepV.vsl w1 (Tot Mo (s.vturn nm (tsz P te) xs).bx (s.vturn nm (tsz P te) xs).ow (m.vturn nm (m.ow nm) (m.vl nm))) (m.vturn nm (m.ow nm) (m.vl nm)) nm
  have e2:(m.vturn nm (m.ow nm) (m.vl nm)).vl nm=m.vl nm:=by simp [Mp.vturn]
  rw [e2] at this
  rw [← hlen];exact this
 have hya:=ha hne
 subst hya
 have evs:vs = #[.slice (m.vl nm).1 xs.length (m.vl nm).2.2,.int .i64 ii,.slice (some ⟨yb,yo,none⟩) ys.length yc]:=by
  have hs3:vs.size=3:=by rw [hargs.1];rfl
  apply Array.ext
  ·rw [hs3];rfl
  ·intro j hj _
   have hj3:j<3:=by rw [hs3] at hj;exact hj
   have gd:vs.getD j undef=vs[j]:=by rw [Array.getD_eq_getD_getElem?,Array.getElem?_eq_getElem hj];rfl
   rw [← gd]
   match j,hj3 with
   | 0,_=>rw [a0,hlen];rfl
   | 1,_=>exact a1
   | 2,_=>exact ec
 obtain ⟨old,ol,oleaf,orep,ocell,hold⟩:=hvec.list (P:=P)
 obtain ⟨L,hnew,oky,aty⟩:=run_firstCells (P:=P) a2 hyr hz
 have hLl:=oky.len
 have hm0:0<ys.length:=List.length_pos_iff.2 hne
 rw [evs]
 have hrowx:VRow w (Tot Mo s.bx s.ow m) xs old:=⟨by rw [ol,flatD_len hvec.sz],oleaf,orep⟩
 have hrowy:VRow w (Tot Mo s.bx s.ow m) ys L:=⟨by rw [hLl,flatD_len hyr],oky.leafs,fun j hj=>oky.flat hz0 j hj⟩
 have hrow:=((hrowx.take hvec.sz ii).app hrowy).app (hrowx.drop hvec.sz ii)
 have hsz' : ∀ x∈xs.take ii++ys++xs.drop ii,x.cells.length=tsz P te:=fun x hx=>by
  rcases List.mem_append.1 hx with hx | hx
  ·rcases List.mem_append.1 hx with hx | hx
   ·exact hvec.sz x (List.mem_of_mem_take hx)
   ·exact hyr x hx
  ·exact hvec.sz x (List.mem_of_mem_drop hx)
 have hnl:(xs.take ii++ys++xs.drop ii).length=xs.length+ys.length:=by simp;omega
 have post:∀ (m' : Mp) (v:Value) (w' : World),Rel Mo m' (s.vturn nm (tsz P te) (xs.take ii++ys++xs.drop ii)) sa w' → (∀ M,RepV w' M m' (.vsl nm) v)→Step m s w m' (s.vturn nm (tsz P te) (xs.take ii++ys++xs.drop ii)) w' → m'.lp=m.lp →
   ∀ e w1,(e = .returned v∧w1=w')→CallPost Mo m s sa w k e w1:=by
  rintro m' v w' g1 g2 g3 g4 e w1 ⟨rfl,rfl⟩
  exact ⟨v,.vsl nm,m',_,rfl,hk,g1,g2 _,g3,by simp only [rdOf];rw [show (s.vturn nm (tsz P te) (xs.take ii++ys++xs.drop ii)).rd=s.rd from rfl,g4]⟩
 refine callsIn_round (callsIn_wide.2 ?_)
 by_cases hie:ii=xs.length
 ·
  subst hie
  obtain ⟨m',v,w',g1,g2,g3,g4,g5⟩:=vec_append (ty:=ts) (ts:=#[ts,ts]) (args:=#[.slice (m.vl nm).1 (m.vl nm).2.1 (m.vl nm).2.2,.slice (some ⟨yb,yo,none⟩) ys.length yc]) hR hc rfl rfl hI.us hI.us hz hI.zc hI.zl rfl rfl (by rw [← ec];exact a2) hyr hb hmx
  have e:xs.take xs.length++ys++xs.drop xs.length=xs++ys:=by simp
  rw [e] at post
  rw [hlen] at g1
  exact (hI.fin (m.vl nm).1 xs.length (m.vl nm).2.2 yb yo ys.length yc w w' v hm0 hcap (fun ty=>g1)).mono (post m' v w' g2 g3 g4 g5)
 ·have hin:ii<xs.length:=by omega
  have hadd:(xs.length+ys.length) * tsz P te=xs.length * tsz P te+ys.length * tsz P te:=Nat.add_mul _ _ _
  have hadd2:(ii+ys.length) * tsz P te=ii * tsz P te+ys.length * tsz P te:=Nat.add_mul _ _ _
  have hile:ii * tsz P te≤xs.length * tsz P te:=Nat.mul_le_mul_right _ (by omega)
  have hyl:0<ys.length * tsz P te:=Nat.mul_pos hm0 hz0
  have hdl:(old.drop (ii * tsz P te)).length=xs.length * tsz P te - ii * tsz P te:=by rw [List.length_drop,ol]
  have htl:(old.take (ii * tsz P te)).length=ii * tsz P te:=by rw [List.length_take,ol];omega
  have hOl:(old.take (ii * tsz P te)++L++old.drop (ii * tsz P te)).length=(xs.length+ys.length) * tsz P te:=by
   rw [List.length_append,List.length_append,hdl,htl,hLl];omega
  have hcells:∀ (b:Nat) (w' : World) (c' : Array Value) (T:TypeId),w'.heap[b]? = some (.cells c' T (0,0)) →
    (∀ j,j<ii * tsz P te→c'[j]? = some (old.getD j undef))→(∀ j (hj:j<L.length),c'[ii * tsz P te+j]? = some L[j])→(∀ j (hj:j<(old.drop (ii * tsz P te)).length),c'[(ii+ys.length) * tsz P te+j]? = some (old.drop (ii * tsz P te))[j]) →
    ∀ j (hj:j<(flatD (xs.take ii++ys++xs.drop ii)).length),∃ v,w'.cell? ⟨b,j,none⟩=some v∧leaf v=true∧RepD w (Tot Mo s.bx s.ow m) (flatD (xs.take ii++ys++xs.drop ii))[j] v:=by
   intro b w' c' T hb' p1 p2 p3 j hj
   have hjO:j<(old.take (ii * tsz P te)++L++old.drop (ii * tsz P te)).length:=by rw [hrow.1];exact hj
   refine ⟨_,?_,?_,hrow.2.2 j hj⟩
   ·rw [cell_of_block hb',getD_parts hjO,htl]
    have hjl:j<(xs.length+ys.length) * tsz P te:=by rw [← hOl];exact hjO
    split
    ·rename_i hj1
     rw [p1 j hj1,List.getD_eq_getElem?_getD,List.getD_eq_getElem?_getD,List.getElem?_take_of_lt hj1]
    ·rename_i hj1
     split
     ·rename_i hj2
      have:=p2 (j - ii * tsz P te) (by omega)
      rw [show ii * tsz P te+(j - ii * tsz P te)=j from by omega] at this
      rw [this,List.getD_eq_getElem?_getD,List.getElem?_eq_getElem (by omega)];rfl
     ·rename_i hj2
      have:=p3 (j - (ii * tsz P te+L.length)) (by omega)
      rw [show (ii+ys.length) * tsz P te+(j - (ii * tsz P te+L.length))=j from by omega] at this
      rw [this,List.getD_eq_getElem?_getD,List.getElem?_eq_getElem (by omega)];rfl
   ·have:=hrow.2.1 _ (List.getElem_mem hjO)
    rw [List.getD_eq_getElem?_getD,List.getElem?_eq_getElem hjO];exact this
  rcases hvec.hd with hd | ⟨b,c,T,hb1,hreg,hblk,hszb⟩
  ·omega
  have hcapm:xs.length * tsz P te≤(m.vl nm).2.2 * tsz P te:=Nat.mul_le_mul_right _ hcap
  have hneo:nonempty (m.ow nm):=by
   rw [hreg];simp only [nonempty]
   exact Nat.lt_of_lt_of_le (Nat.mul_pos (by omega) hz0) hcapm
  have ocs:∀ j v,old[j]? = some v→w.cell? ⟨b,0+j,none⟩=some v:=fun j v hv=>by
   have hj:=(List.getElem?_eq_some_iff.1 hv).1
   have:=ocell j hj
   rw [hreg,List.getD_eq_getElem?_getD,hv] at this
   exact this
  have ycs:∀ j v,L[j]? = some v→w.cell? ⟨yb,yo+j,none⟩=some v∧¬ Tot Mo s.bx s.ow m yb (yo+j):=fun j v hv=>by
   have hj:=(List.getElem?_eq_some_iff.1 hv).1
   obtain ⟨ad,cap',e1,e2,e3,e4⟩:=aty j hj
   rw [ec] at e1;cases e1
   rw [List.getD_eq_getElem?_getD,hv] at e3
   exact ⟨e3,e4⟩
  have hyb:yb≠b:=by
   intro e
   have hv:L[0]? = some L[0]:=List.getElem?_eq_getElem (by omega)
   obtain ⟨g1,g2⟩:=ycs 0 _ hv
   rw [e] at g1 g2
   refine g2 (.inr (.inr ⟨nm,hn,by rw [hreg],by rw [hreg];exact Nat.zero_le _,?_⟩))
   rw [hreg];simp only
   rw [cell_of_block hblk] at g1
   have:=(Array.getElem?_eq_some_iff.1 g1).1
   omega
  have one:∀ l:List Value,(∀ v∈l,leaf v=true)→∀ v∈l,v.oneCell' = true:=fun l h v hv=>leaf_oneCell (h v hv)
  by_cases hroom:xs.length+ys.length≤(m.vl nm).2.2
  ·
   have hcapn:(xs.length+ys.length) * tsz P te≤(m.vl nm).2.2 * tsz P te:=Nat.mul_le_mul_right _ hroom
   obtain ⟨yc0,yT,yf,hyblk,_⟩:=block_of_cell (ycs 0 _ (List.getElem?_eq_getElem (show 0<L.length by omega))).1
   have hy0:yc0.size≠0:=by
    have h:=(ycs 0 _ (List.getElem?_eq_getElem (show 0<L.length by omega))).1
    rw [cell_of_block hyblk] at h
    have:=(Array.getElem?_eq_some_iff.1 h).1
    omega
   have hrun:=hI.shift b 0 xs.length (m.vl nm).2.2 ii yb yo ys.length yc old L w hin hm0 hroom hmx hyb ol hLl ocs (fun j hj=>by
     rw [cell_of_block hblk,Array.getElem?_eq_getElem (by omega)];rfl) (fun j _=>frozen_of_block hblk) (fun j v hv=>(ycs j v hv).1) (one _ oleaf) (one _ oky.leafs) yT T yc0.size c.size (shape_of_block hyblk) (shape_of_block hblk) hy0 (frozen_of_block hblk)
   obtain ⟨c',q1,q2,q3,q4,q5,q6,q7,q8,q9,q10⟩:=put2 (w:=w.drew) b (0+(ii+ys.length) * tsz P te) (0+ii * tsz P te) (old.drop (ii * tsz P te)) L c T hblk (by omega) (by omega)
   obtain ⟨r1,r2⟩:=hR.vecTurn nm (m.ow nm) (m.ow nm) (some ⟨b,0,none⟩,xs.length+ys.length,(m.vl nm).2.2) (tsz P te) (xs.take ii++ys++xs.drop ii) (w':=putCells (putCells w.drew b (0+(ii+ys.length) * tsz P te) (old.drop (ii * tsz P te))) b (0+ii * tsz P te) L)
    (fun _=>⟨hn,rfl⟩) ⟨q7,q8,q9,by rw [q10];exact Nat.le_refl _⟩ (fun b' _ hne'=>q6 b' (by rw [hreg] at hne'; exact hne' (by rw [hreg] at hneo;exact hneo))) (fun _ c0 T0 hc0=>by
     rw [hreg] at hc0 ⊢
     simp only at hc0 ⊢
     rw [hblk] at hc0;cases hc0
     refine ⟨c',q1,q2,fun o ho=>q3 o ?_ ?_⟩ <;> (right;omega)) (fun _=>.inl rfl) (.inr ⟨b,c',T,rfl,hreg,q1,by rw [q2];exact hszb⟩) hnl.symm (by rw [hnl];exact hroom) hvec.capm (by rw [hnl];exact hmx) hsz' (fun j hj=>by
     rw [hreg];simp only [Nat.zero_add]
     have:=hcells b _ c' T q1 (fun j hj=>by
       rw [q3 j (by left;omega) (by left;omega),← cell_of_block hblk]
       have h:=ocell j (by omega)
       rw [hreg] at h
       simpa using h) (fun j hj=>by have:=q4 j hj;rwa [Nat.zero_add] at this) (fun j hj=>by
       have:=q5 j hj (by right;omega)
       rwa [Nat.zero_add] at this) j hj
     simpa only [Nat.zero_add] using this)
   rw [hb1]
   refine hrun.mono fun e w1 he=>post _ _ _ r1 (fun M=>?_) r2 rfl e w1 ⟨he.1,by rw [he.2,setCells_put,setCells_put]⟩
   have:=@RepV.vsl (putCells (putCells w.drew b (0+(ii+ys.length) * tsz P te) (old.drop (ii * tsz P te))) b (0+ii * tsz P te) L) M (m.vturn nm (m.ow nm) (some ⟨b,0,none⟩,xs.length+ys.length,(m.vl nm).2.2)) nm
   simpa [Mp.vturn] using this
  ·
   obtain ⟨zi,z,hzi,hzz,hzcv⟩:=tzero_inv hI.zc
   have hzs:z.cells.size=tsz P te:=by
    have:=(repV_const (w:=w) (M:=fun _ _=>False) (m:=m) z).csOK (by rw [← hzcv];exact hI.zc)
    rw [this.size,← hzcv];exact hI.zl
   have hzisz:zi.size=tsz P te:=by simp [tsz,hzi]
   have hzib:zi.bytes=tbytes P te:=by simp [tbytes,hzi]
   have hik:ii+(xs.length+ys.length - ii)=xs.length+ys.length:=by omega
   have hkk:(xs.length:Int)+(ys.length:Int) - (ii:Int)=((xs.length+ys.length - ii:Nat):Int):=by omega
   obtain ⟨G,hG⟩:∃ G,G=grownCap w (xs.length+ys.length) (m.vl nm).2.2 te:=⟨_,rfl⟩
   have hGn:xs.length+ys.length≤G:=by rw [hG];exact grownCap_ge w _ _ _
   have hGmx:G≤9223372036854775807:=by
    rw [hG]
    have:=Nat.mod_lt (w.tape w.drawn (Question.appendCap (xs.length+ys.length) (m.vl nm).2.2 te)) (y:=2 ^ 63 - (xs.length+ys.length)) (by omega)
    simp only [grownCap,Question.cut];omega
   obtain ⟨ROW,hROW⟩:∃ ROW:Array Value,ROW=(old.take (ii * tsz P te)).toArray++Builtin.zeroCells z.cells (xs.length+ys.length - ii)++Builtin.zeroCells z.cells (G - (xs.length+ys.length)):=⟨_,rfl⟩
   have hGm:ii * tsz P te+(xs.length+ys.length - ii) * tsz P te+(G - (xs.length+ys.length)) * tsz P te=G * tsz P te:=by rw [← Nat.add_mul,← Nat.add_mul];congr 1;omega
   have hGm2:(xs.length+ys.length) * tsz P te≤G * tsz P te:=Nat.mul_le_mul_right _ hGn
   have hRs:ROW.size=G * tsz P te:=by
    rw [hROW]
    simp only [Array.size_append,List.size_toArray,size_zeroCells,htl,hzs]
    exact hGm
   have hrz:∀ ty,(Builtin.append_ #[ts,ti] ty #[.slice (some ⟨b,0,none⟩) ii (m.vl nm).2.2,.int .i64 ((xs.length:Int)+(ys.length:Int) - (ii:Int))]).run P w = .ok (.slice (some ⟨w.heap.size,0,none⟩) (xs.length+ys.length) G) (w.drew.alloc (.cells ROW te)):=fun ty=>by
    have h:=Lib.run_append_grow_zeros w ts ti ty te zi z .i64 .i64 hI.us hI.ui hzi hzz (some ⟨b,0,none⟩) ii (m.vl nm).2.2 (old.take (ii * tsz P te)) (by
      rw [hzisz]
      exact Go.run_firstCells_some w.drew (tsz P te) ii ⟨b,0,none⟩ ii (m.vl nm).2.2 (old.take (ii * tsz P te)) (by rw [htl]) (fun j v hj=>by
       rw [Addr.add_lit]
       rw [List.getElem?_take] at hj
       split at hj
       ·exact ocs j v hj
       ·cases hj)) (xs.length+ys.length - ii) (by omega) (by rw [hzisz];exact hz0) (by omega) (by omega) (by
      rw [hzib]
      have:(xs.length+ys.length - ii) * tbytes P te≤(xs.length+ys.length) * tbytes P te:=Nat.mul_le_mul_right _ (by omega)
      omega) (by rw [hzib,hik];exact growslice_fits (by omega) hb)
    rw [hik,← hG,← hROW] at h
    rw [hkk]
    exact h
   have hrun:=hI.grow b 0 xs.length (m.vl nm).2.2 ii yb yo ys.length yc G old L ROW w hin hm0 hcap (by omega) ol hLl ocs (fun j v hv=>(ycs j v hv).1) (one _ oleaf) (one _ oky.leafs) hGn hmx (by omega) hrz
   have hbl:Below w.heap.size w ((w.alloc (.cells ROW te)).drew):=((Below.refl _ w).alloc (Nat.le_refl _) _).drew
   have hnewb:((w.alloc (.cells ROW te)).drew).heap[w.heap.size]? = some (.cells ROW te (0,0)):=World.alloc_heap_new w _
   have edr:∀ (o:Nat) (l:List Value),((((w.alloc (.cells ROW te)).drew.setCells w.heap.size (ii * tsz P te) L).drew).setCells w.heap.size o l)=(((w.alloc (.cells ROW te)).drew.drew.setCells w.heap.size (ii * tsz P te) L).setCells w.heap.size o l):=fun o l=>by
    rw [drew_setCells']
   obtain ⟨c',q1,q2,q3,q4,q5,q6,q7,q8,q9,q10⟩:=put2 (w:=(w.alloc (.cells ROW te)).drew.drew) w.heap.size (ii * tsz P te) ((ii+ys.length) * tsz P te) L (old.drop (ii * tsz P te)) ROW te hnewb (by omega) (by omega)
   obtain ⟨r1,r2⟩:=hR.vecTurn nm (0,0,0) (w.heap.size,0,G * tsz P te) (some ⟨w.heap.size,0,none⟩,xs.length+ys.length,G) (tsz P te) (xs.take ii++ys++xs.drop ii) (w':=putCells (putCells (w.alloc (.cells ROW te)).drew.drew w.heap.size (ii * tsz P te) L) w.heap.size ((ii+ys.length) * tsz P te) (old.drop (ii * tsz P te)))
    (fun h=>by simp [nonempty] at h) ⟨q7.trans hbl.os,q8.trans hbl.tape,q9.trans hbl.output,by rw [q10];exact hbl.size⟩ (fun b' hb' _=>(q6 b' (by omega)).trans (hbl.block b' hb')) (fun h=>by simp [nonempty] at h) (fun _=>.inr (Nat.le_refl _))
    (.inr ⟨w.heap.size,c',te,rfl,rfl,q1,by rw [q2];exact hRs⟩) hnl.symm (by rw [hnl];exact hGn) hGmx (by rw [hnl];exact hmx) hsz' (fun j hj=>by
     simp only [Nat.zero_add]
     exact hcells w.heap.size _ c' te q1 (fun j hj=>by
       rw [q3 j (by left;omega) (by left;omega),hROW,Array.append_assoc,Array.getElem?_append_left (by simpa [htl] using hj),List.getElem?_toArray,List.getElem?_take_of_lt hj,List.getD_eq_getElem?_getD,List.getElem?_eq_getElem (by omega)];rfl) (fun j hj=>q5 j hj (by left;omega)) (fun j hj=>q4 j hj) j hj)
   rw [hb1]
   refine hrun.mono fun e w1 he=>post _ _ _ r1 (fun M=>?_) r2 rfl e w1 ⟨he.1,by rw [he.2,edr,setCells_put,setCells_put]⟩
   have:=@RepV.vsl (putCells (putCells (w.alloc (.cells ROW te)).drew.drew w.heap.size (ii * tsz P te) L) w.heap.size ((ii+ys.length) * tsz P te) (old.drop (ii * tsz P te))) M (m.vturn nm (w.heap.size,0,G * tsz P te) (some ⟨w.heap.size,0,none⟩,xs.length+ys.length,G)) nm
   simpa [Mp.vturn] using this
end Go.Ab
namespace Go.Ab
open Go Go.RowKit
variable {P:Program} {w:World} {n:Nat} {Mo:Cells} {m:Mp} {s:Sa} {sa:List Act} {p:Name}
structure DelOK (P:Program) (f:FuncId) (te:TypeId):Prop where
 one:tsz P te=1
 del:∀ (b off c i j:Nat) (vs:List Value) (w:World) (_:∀ k (hk:k<vs.length),w.cell? ⟨b,off+k,none⟩=some vs[k]∧w.frozen? ⟨b,off+k,none⟩=false) (_:∀ v∈vs,v.oneCell' = true) (_:vs.length≤c) (_:c≤9223372036854775807) (_:i≤j) (_:j≤vs.length),
  Calls P f #[.slice (some ⟨b,off,none⟩) vs.length c,.int .i64 i,.int .i64 j] w fun e w'=>e = .returned (.slice (some ⟨b,off,none⟩) (vs.length - (j - i)) c) ∧
   (w'.os=w.os∧w'.tape=w.tape∧w'.output=w.output∧w'.heap.size=w.heap.size)∧(∀ k,k≠b→w'.heap[k]? = w.heap[k]?) ∧
   ∀ cs T,w.heap[b]? = some (.cells cs T (0,0))→∃ cs',w'.heap[b]? = some (.cells cs' T (0,0))∧cs'.size=cs.size∧(∀ o,(o<off∨off+vs.length≤o)→cs'[o]? = cs[o]?) ∧
    ∀ k,k<vs.length - (j - i)→cs'[off+k]? = (vs.take i++vs.drop j)[k]?
theorem TCall_del {f:FuncId} {te:TypeId} {nm:Name} {xs:List D} {i j:Int} {k:V→Sa→Prop} (hI:DelOK P f te) (hc:lookN nm s.vc=some (1,xs)) (h0:0≤i) (h1:i<j) (h2:j≤xs.length)
  (hk:k (.vsl nm) (s.vturn nm 1 (xs.take i.toNat++xs.drop j.toNat))):TCall P p f [.vsl nm,.d (.v (.int .i64 i)),.d (.v (.int .i64 j))] s k:=by
 intro Mo m sa w nn vs r hR hargs
 obtain ⟨ii,rfl⟩:∃ ii:Nat,i=(ii:Int):=⟨i.toNat,by omega⟩
 obtain ⟨jj,rfl⟩:∃ jj:Nat,j=(jj:Int):=⟨j.toNat,by omega⟩
 simp only [Int.toNat_natCast] at hk
 obtain ⟨hn,hvec⟩:=hR.vec nm _ hc
 simp only at hvec
 have hlen:=hvec.len
 have hcap:=hvec.cap
 have a0:=(hargs.2 0 (by simp)).vsl_inv
 obtain ⟨a1,_⟩:=(hargs.2 1 (by simp)).val
 obtain ⟨a2,_⟩:=(hargs.2 2 (by simp)).val
 have evs:vs = #[.slice (m.vl nm).1 xs.length (m.vl nm).2.2,.int .i64 ii,.int .i64 jj]:=by
  have hs3:vs.size=3:=by rw [hargs.1];rfl
  apply Array.ext
  ·rw [hs3];rfl
  ·intro j hj _
   have hj3:j<3:=by rw [hs3] at hj;exact hj
   have gd:vs.getD j undef=vs[j]:=by rw [Array.getD_eq_getD_getElem?,Array.getElem?_eq_getElem hj];rfl
   rw [← gd]
   match j,hj3 with
   | 0,_=>rw [a0,hlen];rfl
   | 1,_=>exact a1
   | 2,_=>exact a2
 rw [evs]
 obtain ⟨old,ol,oleaf,orep,ocell,hold⟩:=hvec.list (P:=P)
 rw [Nat.mul_one] at ol
 have hrowx:VRow w (Tot Mo s.bx s.ow m) xs old:=⟨by rw [ol,flatD_len hvec.sz,Nat.mul_one],oleaf,orep⟩
 have hrow:=(hrowx.take hvec.sz ii).app (hrowx.drop hvec.sz jj)
 rw [Nat.mul_one,Nat.mul_one] at hrow
 have hsz' : ∀ x∈xs.take ii++xs.drop jj,x.cells.length=1:=fun x hx=>by
  rcases List.mem_append.1 hx with hx | hx
  ·exact hvec.sz x (List.mem_of_mem_take hx)
  ·exact hvec.sz x (List.mem_of_mem_drop hx)
 have hnl:(xs.take ii++xs.drop jj).length=xs.length - (jj - ii):=by simp;omega
 rcases hvec.hd with hd | ⟨b,c,T,hb1,hreg,hblk,hszb⟩
 ·omega
 rw [Nat.mul_one] at hreg hszb
 have hrun:=hI.del b 0 (m.vl nm).2.2 ii jj old w (fun k hk=>⟨by
   have:=ocell k hk
   rw [hreg,List.getD_eq_getElem?_getD,List.getElem?_eq_getElem hk] at this
   exact this,frozen_of_block hblk⟩) (fun v hv=>leaf_oneCell (oleaf v hv)) (by omega) hvec.capm (by omega) (by omega)
 rw [hb1]
 rw [ol] at hrun
 refine callsIn_round (callsIn_wide.2 (hrun.mono ?_))
 rintro e w' ⟨rfl,⟨k1,k2,k3,k4⟩,k5,k6⟩
 obtain ⟨c',q1,q2,q3,q4⟩:=k6 c T hblk
 obtain ⟨r1,r2⟩:=hR.vecTurn nm (m.ow nm) (m.ow nm) (some ⟨b,0,none⟩,xs.length - (jj - ii),(m.vl nm).2.2) 1 (xs.take ii++xs.drop jj) (w':=w')
  (fun _=>⟨hn,rfl⟩) ⟨k1,k2,k3,by rw [k4];exact Nat.le_refl _⟩ (fun b' _ hne'=>k5 b' (by
   rw [hreg] at hne'
   exact hne' (by simp only [nonempty];omega))) (fun _ c0 T0 hc0=>by
   rw [hreg] at hc0 ⊢
   simp only at hc0 ⊢
   rw [hblk] at hc0;cases hc0
   exact ⟨c',q1,q2,fun o ho=>q3 o (by omega)⟩) (fun _=>.inl rfl) (.inr ⟨b,c',T,rfl,by rw [hreg,Nat.mul_one],q1,by rw [q2,Nat.mul_one];exact hszb⟩) hnl.symm (by rw [hnl];simp only;omega) hvec.capm (by rw [hnl];have:=hvec.mx;omega) hsz' (fun j hj=>by
   have hjl:j<(old.take ii++old.drop jj).length:=by rw [hrow.1];exact hj
   have hjx:j<xs.length - (jj - ii):=by
    rw [List.length_append,List.length_take,List.length_drop] at hjl;omega
   refine ⟨(old.take ii++old.drop jj).getD j undef,?_,?_,hrow.2.2 j hj⟩
   ·rw [hreg];simp only
    rw [cell_of_block q1,q4 j (by omega),List.getD_eq_getElem?_getD,List.getElem?_eq_getElem hjl];rfl
   ·rw [List.getD_eq_getElem?_getD,List.getElem?_eq_getElem hjl];exact hrow.2.1 _ (List.getElem_mem hjl))
 refine ⟨_,.vsl nm,_,_,rfl,hk,r1,?_,r2,by simp only [rdOf];rfl⟩
 have:=@RepV.vsl w' (Tot Mo (s.vturn nm 1 (xs.take ii++xs.drop jj)).bx (s.vturn nm 1 (xs.take ii++xs.drop jj)).ow (m.vturn nm (m.ow nm) (some ⟨b,0,none⟩,xs.length - (jj - ii),(m.vl nm).2.2))) (m.vturn nm (m.ow nm) (some ⟨b,0,none⟩,xs.length - (jj - ii),(m.vl nm).2.2)) nm
 simpa [Mp.vturn] using this
end Go.Ab
